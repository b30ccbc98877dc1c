/- Merged texts: FwN FwO FwP Tm Base SortLay TermA TermB TermC Sorted Free OrdA OrdB OrdC OrdD OrdE OrdF. Conditions stand in each rule. -/
import Derived.Test.YtogicnodmgdnbaaGreatSC
import Derived.Laws.AppendOwn
import Derived.Laws.Small
import Derived.Laws.Build
import Derived.KernelRfl
import Derived.Shelf.Sort.Plain
import Derived.Sort.OwnSortedInts
set_option linter.unusedSimpArgs false
set_option linter.unusedVariables false

namespace Go.Tr
section
open Go
def bnd (d : Nat) (n : Nat) : Option SV → Prop
 | none => n = d
 | some (.v (.int _ i)) => i = n
 | _ => False
theorem qmi {d n : Nat} {s : Option SV} (h : bnd d n s) : (s = none ∧ n = d) ∨ ∃ k, s = some (.v (.int k n)) := by
 cases s with
 | none => exact .inl ⟨rfl, h⟩
 | some s =>
  cases s with
  | v x => cases x <;> simp only [bnd] at h; subst h; exact .inr ⟨_, rfl⟩
  | _ => exact h.elim
theorem Rep.part {J : Nat → Prop} {w : World} {a : Option Addr} {n c k : Nat} {ds : List D} (h : Rep J w (.slice a n c) (.sl k ds)) {lo hi : Nat} (h1 : lo ≤ hi) (h2 : hi ≤ n) (size : Nat) (hs : size = k) :
  Rep J w (.slice (if c = lo then a else a.map (·.add (lo * size))) (hi - lo) (c - lo)) (.sl k ((ds.take hi).drop lo)) := by
 subst hs
 simp only [Rep, RepC] at h ⊢
 obtain ⟨a', cap, heq, hle, hb⟩ := h
 simp only [List.cons.injEq, Value.slice.injEq, and_true] at heq
 obtain ⟨rfl, rfl, rfl⟩ := heq
 have hlen : ((ds.take hi).drop lo).length = hi - lo := by simp; omega
 refine ⟨_, _, by rw [hlen], ⟨by rw [hlen]; omega, by rw [hlen]; omega⟩, ?_⟩
 rcases hb with h3 | ⟨b, off, cc, T, fz, rfl, hj, hbb, he⟩
 ·subst h3; left; simp
 ·by_cases hc : c = lo
  ·left
   rw [List.drop_eq_nil_iff]
   simp; omega
  ·right
   refine ⟨b, off + lo * size, cc, T, fz, by rw [if_neg hc]; simp [qbi], hj, hbb, ?_⟩
   have := RepE.drop lo (RepE.take hi he)
   rw [List.drop_drop] at this
   exact this
theorem qly {P : Program} {tt : Tab} (hT : TTOK P tt) {t e : TypeId} {k : Nat} {x : SV} {sl sh : Option SV} {S : St} {K : SV → St → Prop} {a : Option Addr} {n c : Nat} {ds : List D} (j lo hi : Nat) (hx : x = .v (.slice a n c)) (ht : tt t = some (.slice e k))
  (hr : nth S.reps j = some (.slice a n c, .sl k ds)) (hlo : bnd 0 lo sl) (hhi : bnd n hi sh) (h1 : lo ≤ hi) (h2 : hi ≤ n)
  (h : ∀ a' c', hi - lo ≤ c' → addReps S [(.slice a' (hi - lo) c', .sl k ((ds.take hi).drop lo))] (fun S' => K (.v (.slice a' (hi - lo) c')) S')) : AtPure P (fun ℓ => Instr.sliceAt t (x.den ℓ) (denO ℓ sl) (denO ℓ sh) (denO ℓ none)) S K := by
 subst hx
 constructor
 intro J ℓ w hG hJ
 have hrep := hG.reps _ (List.mem_of_getElem? (by rw [← qz]; exact hr))
 have hcap : n ≤ c := by
  simp only [Rep, RepC] at hrep
  obtain ⟨a', cap, heq, hle, _⟩ := hrep
  simp only [List.cons.injEq, Value.slice.injEq, and_true] at heq
  obtain ⟨rfl, rfl, rfl⟩ := heq
  exact hle.1
 have hpart := hrep.part h1 h2 k rfl
 have hk := h (if c = lo then a else a.map (·.add (lo * k))) (c - lo) (by omega)
 rw [qbc] at hk
 have hG' := hG.reps_add [(_, _)] (by intro p hp; simp only [List.mem_singleton] at hp; subst hp; exact hpart)
 refine ⟨_, ℓ, _, ?_, rfl, List.prefix_refl _, hG', fun b hb => hb, fun i cs hi => hi, hk⟩
 intro w'
 obtain ⟨_, hu, hse⟩ := hT t _ ht
 have hb : (Instr.sliceBounds true n c (denO ℓ sl) (denO ℓ sh) none).run P w' = .ok (lo, hi, c) w' := by
  rcases qmi hlo with ⟨rfl, rfl⟩ | ⟨k1, rfl⟩ <;> rcases qmi hhi with ⟨rfl, rfl⟩ | ⟨k2, rfl⟩ <;> simp [Instr.sliceBounds, Instr.sliceBound, asIntOf, denO, SV.den, h1, Nat.le_trans h2 hcap, h2]
 simp only [Instr.sliceAt, SV.den, Sem.run_bind, qk hu, Result.andThen_ok]
 simp only [Instr.slice, Sem.run_bind, qk hu, Result.andThen_ok, denO]
 have hb' := hb
 simp only [denO] at hb'
 rw [hb']
 simp only [Result.andThen_ok, hse, Sem.run_pure]
def elemB (P : Program) (e : TypeId) (k bytes : Nat) : Bool :=
 match P.info? e with
 | some i => (Nat.beq i.size k && Nat.beq i.bytes bytes) && (match i.zero with
  | some z => Nat.beq z.cells.size k
  | none => false)
 | none => false
theorem qgz {P : Program} {e : TypeId} {k bytes : Nat} (h : elemB P e k bytes = true) : ∃ i z, P.info? e = some i ∧ i.size = k ∧ i.bytes = bytes ∧ i.zero = some z ∧ z.cells.size = k := by
 unfold elemB at h
 split at h
 ·rename_i i hi
  simp only [Bool.and_eq_true] at h
  obtain ⟨⟨h1, h2⟩, h3⟩ := h
  split at h3
  ·rename_i z hz
   exact ⟨i, z, hi, Nat.eq_of_beq_eq_true h1, Nat.eq_of_beq_eq_true h2, hz, Nat.eq_of_beq_eq_true h3⟩
  ·cases h3
 ·cases h
def partsOK (reps : List (Value × D)) (k : Nat) : Nat → List (Nat × SV) → List D → Prop
 | _, [], [] => True
 | i, (j, s) :: l, d :: ds => (j = i ∧ plainS s = true ∧ (cellsOf s).length = k ∧ RepS reps d (cellsOf s)) ∧ partsOK reps k (i + 1) l ds
 | _, _, _ => False
theorem fill_row (ℓ : List Base) {reps : List (Value × D)} {k : Nat} : ∀ (l : List (Nat × SV)) (ds : List D) (i : Nat) (cells : List Value), partsOK reps k i l ds → i * k + ds.length * k ≤ cells.length →
  ∃ flat, flat.length = ds.length * k ∧ Instr.fill (fun i => some (i * k, k)) cells.toArray (denParts ℓ l) = some (cells.take (i * k) ++ flat ++ cells.drop (i * k + ds.length * k)).toArray ∧
   ∀ {J : Nat → Prop} {w : World}, (∀ p ∈ reps, Rep J w p.1 p.2) → ∀ tail, RepE J w k ds (flat ++ tail)
 | [], [], i, cells, _, hl => ⟨[], by simp, by simp [denParts, Instr.fill], fun _ _ => trivial⟩
 | [], _ :: _, i, cells, h, _ => h.elim
 | _ :: _, [], i, cells, h, _ => h.elim
 | (j, s) :: l, d :: ds, i, cells, h, hl => by
  obtain ⟨⟨rfl, hp, hk, hrep⟩, h⟩ := h
  simp only [List.length_cons, Nat.add_mul, Nat.one_mul] at hl
  have hc : (s.den ℓ).cells = (qc ℓ (cellsOf s)).toArray := qau ℓ hp
  have hxl : (qc ℓ (cellsOf s)).length = k := by rw [qp, hk]
  have hf := qd8 (qc ℓ (cellsOf s)) cells.toArray (j * k) (by simp only [List.size_toArray]; omega)
  have hsr : setRange cells (j * k) (qc ℓ (cellsOf s)) = cells.take (j * k) ++ qc ℓ (cellsOf s) ++ cells.drop (j * k + k) := by
   simp only [setRange, hxl]; try rw [List.append_assoc]
  have hlen : (setRange cells (j * k) (qc ℓ (cellsOf s))).length = cells.length := qei _ _ _ (by omega)
  obtain ⟨flat, hfl, hfill, hrepE⟩ := fill_row ℓ l ds (j + 1) (setRange cells (j * k) (qc ℓ (cellsOf s))) h (by rw [hlen, Nat.add_mul]; omega)
  refine ⟨qc ℓ (cellsOf s) ++ flat, by rw [List.length_append, hxl, hfl, List.length_cons, Nat.add_mul]; omega, ?_, ?_⟩
  ·simp only [denParts, Instr.fill, hc]
   rw [if_neg (by simp [hxl]; omega)]
   simp only [] at hf
   rw [hf]
   rw [hfill]
   have e1 : (j + 1) * k = j * k + k := by rw [Nat.add_mul]; omega
   rw [e1, hsr]
   congr 2
   have hpre : (cells.take (j * k) ++ qc ℓ (cellsOf s)).length = j * k + k := by simp [hxl]; omega
   rw [List.take_append_of_le_length (by omega), List.take_of_length_le (by omega)]
   rw [List.drop_append, List.drop_of_length_le (by omega), hpre]
   simp only [List.nil_append, List.drop_drop, List.append_assoc, List.length_cons, Nat.add_mul, Nat.one_mul]
   congr 3
   congr 1
   omega
  ·intro J w hr tail
   simp only [RepE, List.append_assoc]
   refine ⟨by simp [hxl], ?_, ?_⟩
   ·rw [List.take_append_of_le_length (by omega), List.take_of_length_le (by omega)]
    exact RepS.sound hr d _ hrep
   ·rw [List.drop_append, List.drop_of_length_le (by omega), hxl, Nat.sub_self]
    exact hrepE hr tail
theorem qln {P : Program} {e : TypeId} {i : TypeInfo} {z : Value} (hi : P.info? e = some i) (hz : i.zero = some z) (w : World) : (zeroValue e).run P w = .ok z w := by
 simp [zeroValue, typeInfo, hi, hz]
theorem qmq {P : Program} {tt : Tab} (hT : TTOK P tt) {t e : TypeId} {k bytes n : Nat} (ht : tt t = some (.slice e k)) (hel : elemB P e k bytes = true) {ℓ : List Base} {reps : List (Value × D)} {l : List (Nat × SV)} {ds : List D} (hl : partsOK reps k 0 l ds) (hn : ds.length = n) (hlim : n * k ≤ 16777216) (w : World) :
  ∃ flat : List Value, flat.length = n * k ∧ (Instr.buildSlice t n (denParts ℓ l).toArray).run P w = .ok (.slice (some ⟨w.heap.size, 0, none⟩) n n) (w.alloc (.cells flat.toArray e (0, 0))) ∧
   ∀ {J : Nat → Prop} {w : World}, (∀ p ∈ reps, Rep J w p.1 p.2) → RepE J w k ds flat := by
 obtain ⟨_, hu, hse⟩ := hT t _ ht
 obtain ⟨i, z, hi, hik, _, hz, hzk⟩ := qgz hel
 have hkey : ∀ zero : Array Value, ∃ flat : List Value, flat.length = n * k ∧ Instr.fill (fun i => some (i * k, k)) ((Array.range (n * k)).map (zero[· % zero.size]!)) (denParts ℓ l) = some flat.toArray ∧
   ∀ {J : Nat → Prop} {w : World}, (∀ p ∈ reps, Rep J w p.1 p.2) → RepE J w k ds flat := by
  intro zero
  obtain ⟨flat, h1, h2, h3⟩ := fill_row ℓ l ds 0 ((Array.range (n * k)).map (zero[· % zero.size]!)).toList hl (by simp [hn])
  refine ⟨flat, by rw [h1, hn], ?_, fun hr => by simpa using h3 hr []⟩
  simp only [Array.toArray_toList, Nat.zero_mul, List.take_zero, List.nil_append, Nat.zero_add] at h2
  rw [h2, hn, List.drop_of_length_le (by simp), List.append_nil]
 by_cases h0 : n * k = 0
 ·obtain ⟨flat, h1, h2, h3⟩ := hkey #[]
  refine ⟨flat, h1, ?_, h3⟩
  simp only [Instr.buildSlice, Sem.run_bind, qk hu, Result.andThen_ok, hse]
  rw [if_neg (by omega), if_pos h0]
  simp only [Sem.run_bind, Sem.run_pure, Result.andThen_ok]
  rw [h2]
  simp [newRow]
 ·obtain ⟨flat, h1, h2, h3⟩ := hkey z.cells
  refine ⟨flat, h1, ?_, h3⟩
  simp only [Instr.buildSlice, Sem.run_bind, qk hu, Result.andThen_ok, hse]
  rw [if_neg (by omega), if_neg h0]
  simp only [Sem.run_bind, Sem.run_pure, Result.andThen_ok, qln hi hz]
  rw [h2]
  simp [newRow]
theorem Good.beside {J : Nat → Prop} {ℓ : List Base} {S : St} {w w' : World} (h : Good J ℓ S w) (hsz : w.heap.size ≤ w'.heap.size) (hw : ∀ b, b < w.heap.size → w'.heap[b]? = w.heap[b]?) : Good J ℓ S w' :=
 h.kept (fun _ h => h) hsz (fun b hb _ => hw b hb)
theorem qep {P : Program} {tt : Tab} (hT : TTOK P tt) {t e : TypeId} {k n : Nat} {l : List (Nat × SV)} {S : St} {K : SV → St → Prop} (bytes : Nat) (ds : List D) (ht : tt t = some (.slice e k)) (hel : elemB P e k bytes = true) (hl : partsOK S.reps k 0 l ds) (hn : ds.length = n) (hlim : n * k ≤ 16777216) (hpos : n ≤ 16777216)
  (h : ∀ a, addReps S [(.slice a n n, .sl k ds)] (fun S' => K (.v (.slice a n n)) S')) : AtSem P (fun ℓ => Instr.buildSlice t n (denParts ℓ l).toArray) S K := by
 constructor
 intro J ℓ w hG hJ
 obtain ⟨flat, hfl, hrun, hrep⟩ := qmq hT ht hel (ℓ := ℓ) hl hn hlim w
 have hold : ∀ x, x < w.heap.size → (w.alloc (.cells flat.toArray e (0, 0))).heap[x]? = w.heap[x]? := fun x hx => by
  show (w.heap.push _)[x]? = _
  rw [Array.getElem?_push, if_neg (by omega)]
 have hG1 := hG.beside (w' := w.alloc (.cells flat.toArray e (0, 0))) (by simp) hold
 have hk := h (some ⟨w.heap.size, 0, none⟩)
 rw [qbc] at hk
 refine ⟨.v (.slice (some ⟨w.heap.size, 0, none⟩) n n), ℓ, ⟨S.own, S.accs, S.reps ++ [(.slice (some ⟨w.heap.size, 0, none⟩) n n, .sl k ds)]⟩, w.alloc (.cells flat.toArray e (0, 0)), hrun, rfl, List.prefix_refl _, ⟨rfl, rfl, by simp, fun b hb _ => hold b hb⟩, hG1.reps_add [(_, _)] ?_, fun b hb => .inl hb, hk⟩
 intro p hp
 simp only [List.mem_singleton] at hp
 subst hp
 simp only [Rep, RepC]
 refine ⟨_, _, by rw [hn], ⟨by omega, by omega⟩, .inr ⟨w.heap.size, 0, flat.toArray, e, (0, 0), rfl, ⟨hJ _ (Nat.le_refl _), fun hm => by have := hG.lt _ hm; omega⟩, World.alloc_heap_new w _, ?_⟩⟩
 simpa using hrep hG1.reps
theorem RepC.one {J : Nat → Prop} {w : World} : ∀ (d : D) (cs : List Value), RepC J w d cs → ∀ u ∈ cs, u.oneCell' = true
 | .int k n, cs, h, u, hu => by simp only [RepC] at h; subst h; simp at hu; subst hu; rfl
 | .bool b, cs, h, u, hu => by simp only [RepC] at h; subst h; simp at hu; subst hu; rfl
 | .str s, cs, h, u, hu => by simp only [RepC] at h; subst h; simp at hu; subst hu; rfl
 | .sl k ds, cs, h, u, hu => by simp only [RepC] at h; obtain ⟨a, cap, rfl, _⟩ := h; simp at hu; subst hu; rfl
 | .agg ds, cs, h, u, hu => by simp only [RepC] at h; exact RepA.one ds cs h u hu
 | .ifc t d, cs, h, u, hu => by simp only [RepC] at h; obtain ⟨v, rfl, _⟩ := h; simp at hu; subst hu; rfl
where
 RepA.one {J : Nat → Prop} {w : World} : ∀ (ds : List D) (cs : List Value), RepA J w ds cs → ∀ u ∈ cs, u.oneCell' = true
 | [], cs, h, u, hu => by simp only [RepA] at h; subst h; simp at hu
 | d :: ds, cs, h, u, hu => by
  simp only [RepA] at h
  obtain ⟨x, y, rfl, h1, h2⟩ := h
  rcases List.mem_append.1 hu with h3 | h3
  ·exact RepC.one d x h1 u h3
  ·exact RepA.one ds y h2 u h3
theorem RepE.one {J : Nat → Prop} {w : World} {k : Nat} : ∀ (ds : List D) (cs : List Value), RepE J w k ds cs → ∀ u ∈ cs.take (ds.length * k), u.oneCell' = true
 | [], cs, _, u, hu => by simp at hu
 | d :: ds, cs, h, u, hu => by
  simp only [RepE] at h
  simp only [List.length_cons, Nat.add_mul, Nat.one_mul] at hu
  rw [Nat.add_comm, List.take_add] at hu
  rcases List.mem_append.1 hu with h3 | h3
  ·exact RepC.one d _ h.2.1 u h3
  ·exact RepE.one ds _ h.2.2 u h3
theorem Good.regrow {J : Nat → Prop} {ℓ : List Base} {S : St} {w w' : World} (h : Good J ℓ S w) (hJ : Fresh J w) {j : Nat} {a a' : Acc} (ha : S.accs[j]? = some a) (hsz : w.heap.size ≤ w'.heap.size) (hw : ∀ b, b < w.heap.size → b ∉ accBlk a.v → w'.heap[b]? = w.heap[b]?) (hnd : (accBlk a'.v).Nodup)
  (hblk : ∀ b ∈ accBlk a'.v, (b ∈ accBlk a.v ∨ w.heap.size ≤ b) ∧ b < w'.heap.size)
  (hok : ∀ J', (∀ x, x < w.heap.size → Jx J (mutS ℓ S) x → J' x ∧ w'.heap[x]? = w.heap[x]?) → AccOK J' w' a') :
  Good J ℓ ⟨S.own, S.accs.set j a', S.reps⟩ w' ∧ (∀ b ∈ mutS ℓ ⟨S.own, S.accs.set j a', S.reps⟩, b ∈ mutS ℓ S ∨ w.heap.size ≤ b) := by
 have hlt : j < S.accs.length := (List.getElem?_eq_some_iff.1 ha).1
 have hsplit : S.accs = S.accs.take j ++ a :: S.accs.drop (j + 1) := by
  have e1 := (List.getElem?_eq_some_iff.1 ha).2
  rw [← e1, ← List.drop_eq_getElem_cons hlt, List.take_append_drop]
 have hset : S.accs.set j a' = S.accs.take j ++ a' :: S.accs.drop (j + 1) := List.set_eq_take_append_cons_drop .. |>.trans (by rw [if_pos hlt])
 generalize hl1 : S.accs.take j = l1 at *
 generalize hl2 : S.accs.drop (j + 1) = l2 at *
 let bl : Acc → List Nat := fun a => accBlk a.v
 have hM : mutS ℓ S = mutL ℓ S.own ++ (l1.flatMap bl ++ (accBlk a.v ++ l2.flatMap bl)) := by
  simp only [mutS, hsplit, List.flatMap_append, List.flatMap_cons, bl]
 have hM' : mutS ℓ ⟨S.own, S.accs.set j a', S.reps⟩ = mutL ℓ S.own ++ (l1.flatMap bl ++ (accBlk a'.v ++ l2.flatMap bl)) := by
  simp only [mutS, hset, List.flatMap_append, List.flatMap_cons, bl]
 have hn := h.nodup
 rw [hM, List.nodup_append, List.nodup_append, List.nodup_append] at hn
 obtain ⟨n1, ⟨n2, ⟨n3, n4, n34⟩, n234⟩, n1234⟩ := hn
 have oldlt : ∀ b, b ∈ mutL ℓ S.own ∨ b ∈ l1.flatMap bl ∨ b ∈ l2.flatMap bl → b < w.heap.size := fun b hb => h.lt b (by
  rw [hM]; simp only [List.mem_append]
  rcases hb with h1 | h1 | h1
  ·exact .inl h1
  ·exact .inr (.inl h1)
  ·exact .inr (.inr (.inr h1)))
 -- what else may be written is not the slice's block
 have apart : ∀ b, b ∈ mutL ℓ S.own ∨ b ∈ l1.flatMap bl ∨ b ∈ l2.flatMap bl → b ∉ accBlk a.v := by
  intro b hb hm
  rcases hb with h1 | h1 | h1
  ·exact n1234 b h1 b (List.mem_append.2 (.inr (List.mem_append.2 (.inl hm)))) rfl
  ·exact n234 b h1 b (List.mem_append.2 (.inl hm)) rfl
  ·exact n34 b hm b h1 rfl
 have apart' : ∀ b, b ∈ mutL ℓ S.own ∨ b ∈ l1.flatMap bl ∨ b ∈ l2.flatMap bl → b ∉ accBlk a'.v := by
  intro b hb hm
  rcases (hblk b hm).1 with h1 | h1
  ·exact apart b hb h1
  ·have := oldlt b hb; omega
 have hmem : ∀ b, b ∈ mutS ℓ ⟨S.own, S.accs.set j a', S.reps⟩ → (b ∈ mutL ℓ S.own ∨ b ∈ l1.flatMap bl ∨ b ∈ l2.flatMap bl) ∨ b ∈ accBlk a'.v := by
  intro b hb
  rw [hM'] at hb
  simp only [List.mem_append] at hb
  rcases hb with h1 | h1 | h1 | h1
  ·exact .inl (.inl h1)
  ·exact .inl (.inr (.inl h1))
  ·exact .inr h1
  ·exact .inl (.inr (.inr h1))
 have hin : ∀ b, b ∈ mutL ℓ S.own ∨ b ∈ l1.flatMap bl ∨ b ∈ l2.flatMap bl → b ∈ mutS ℓ S := by
  intro b hb
  rw [hM]; simp only [List.mem_append]
  rcases hb with h1 | h1 | h1
  ·exact .inl h1
  ·exact .inr (.inl h1)
  ·exact .inr (.inr (.inr h1))
 have hina : ∀ b, b ∈ accBlk a.v → b ∈ mutS ℓ S := by
  intro b hb; rw [hM]; simp only [List.mem_append]; exact .inr (.inr (.inl hb))
 have hx : ∀ x, x < w.heap.size → Jx J (mutS ℓ S) x → Jx J (mutS ℓ ⟨S.own, S.accs.set j a', S.reps⟩) x ∧ w'.heap[x]? = w.heap[x]? := by
  intro x hlt' hj
  refine ⟨⟨hj.1, fun hm => ?_⟩, hw x hlt' (fun hm => hj.2 (hina x hm))⟩
  rcases hmem x hm with h1 | h1
  ·exact hj.2 (hin x h1)
  ·rcases (hblk x h1).1 with h2 | h2
   ·exact hj.2 (hina x h2)
   ·omega
 refine ⟨⟨h.len, ?_, ?_, ?_, h.wf, ?_, ?_, ?_⟩, ?_⟩
 ·rw [hM', List.nodup_append, List.nodup_append, List.nodup_append]
  refine ⟨n1, ⟨n2, ⟨hnd, n4, ?_⟩, ?_⟩, ?_⟩
  ·intro x h1 y h2 e; subst e; exact apart' x (.inr (.inr h2)) h1
  ·intro x h1 y h2 e; subst e
   rcases List.mem_append.1 h2 with h3 | h3
   ·exact apart' x (.inr (.inl h1)) h3
   ·exact n234 x h1 x (List.mem_append.2 (.inr h3)) rfl
  ·intro x h1 y h2 e; subst e
   rcases List.mem_append.1 h2 with h3 | h3
   ·exact n1234 x h1 x (List.mem_append.2 (.inl h3)) rfl
   ·rcases List.mem_append.1 h3 with h4 | h4
    ·exact apart' x (.inl h1) h4
    ·exact n1234 x h1 x (List.mem_append.2 (.inr (List.mem_append.2 (.inr h4)))) rfl
 ·intro b hb
  rcases hmem b hb with h1 | h1
  ·exact Nat.lt_of_lt_of_le (oldlt b h1) hsz
  ·exact (hblk b h1).2
 ·intro b hb
  rcases hmem b hb with h1 | h1
  ·exact h.memJ b (hin b h1)
  ·rcases (hblk b h1).1 with h2 | h2
   ·exact h.memJ b (hina b h2)
   ·exact hJ b h2
 ·intro i b k hi hk
  have h0 := h.own i b k hi hk
  have own : k.mut = true → b.block < w.heap.size → w'.heap[b.block]? = w.heap[b.block]? := fun hm hlt => hw _ hlt (apart _ (.inl (mem_mutL.2 ⟨i, b, k, hi, hk, hm, rfl⟩)))
  have hwk := qae h.wf hk
  cases k with
  | cells T cs => exact h0.keep hwk (fun _ _ => rfl) (fun x hlt hj => (hx x hlt hj).1) (own rfl)
  | obj o => exact h0.keep hwk (fun _ _ => rfl) (fun x hlt hj => (hx x hlt hj).1) (own rfl)
  | lp x => exact h0.keep hwk (fun _ _ => rfl) (fun x hlt hj => (hx x hlt hj).1) (own rfl)
  | iter i s n p => exact h0.keep hwk (fun _ _ => rfl) (fun x hlt hj => (hx x hlt hj).1) (own rfl)
  | imm cs =>
   have h1 := h0
   simp only [BlkOK] at h1
   exact h0.keep hwk (fun _ _ => rfl) (fun x hlt hj => (hx x hlt hj).1) (fun hlt => (hx _ hlt h1.1).2)
  | dead => trivial
  | lost => trivial
 ·intro x hx'
  simp only [hset] at hx'
  have old : (x ∈ l1 ∨ x ∈ l2) → AccOK (Jx J (mutS ℓ ⟨S.own, S.accs.set j a', S.reps⟩)) w' x := by
   intro hm
   refine (h.accs x (by rw [hsplit]; rcases hm with h1 | h1; exact List.mem_append.2 (.inl h1); exact List.mem_append.2 (.inr (List.mem_cons_of_mem _ h1)))).keep hx (fun y hy hlt => hw y hlt (apart y ?_))
   rcases hm with h1 | h1
   ·exact .inr (.inl (List.mem_flatMap.2 ⟨x, h1, hy⟩))
   ·exact .inr (.inr (List.mem_flatMap.2 ⟨x, h1, hy⟩))
  rcases List.mem_append.1 hx' with h1 | h1
  ·exact old (.inl h1)
  ·rcases List.mem_cons.1 h1 with h2 | h2
   ·subst h2; exact hok _ hx
   ·exact old (.inr h2)
 ·exact fun p hp => (h.reps p hp).map hx
 ·intro b hb
  rcases hmem b hb with h1 | h1
  ·exact .inl (hin b h1)
  ·exact (hblk b h1).1.imp (hina b) id
theorem qdd {P : Program} {tt : Tab} (hT : TTOK P tt) {t e ty : TypeId} {k : Nat} {x y : SV} {S : St} {K : SV → St → Prop} {v : Value} {a : Option Addr} {m c : Nat} {ds es : List D} (bytes j i : Nat) (ht : tt t = some (.slice e k)) (hel : elemB P e k bytes = true)
  (hx : x = .v v) (hacc : nth S.accs j = some ⟨v, k, e, ds⟩) (hy : y = .v (.slice a m c)) (hr : nth S.reps i = some (.slice a m c, .sl k es)) (hlim : (ds.length + es.length) * bytes ≤ 140737488355328) (hlen : ds.length + es.length ≤ 1152921504606846976)
  (h : ∀ a' c', forceL (setNth S.accs j ⟨.slice a' (ds.length + es.length) c', k, e, ds ++ es⟩) (fun accs => K (.v (.slice a' (ds.length + es.length) c')) ⟨S.own, accs, S.reps⟩)) : AtSem P (fun ℓ => Builtin.append_ #[t, t] ty (qc ℓ [x, y]).toArray) S K := by
 simp only [qq] at h
 subst hx hy
 constructor
 intro J ℓ w hG hJ
 obtain ⟨_, hu, hse⟩ := hT t _ ht
 obtain ⟨ti, z, hi, hik, hby, hz, hzk⟩ := qgz hel
 have ha : S.accs[j]? = some ⟨v, k, e, ds⟩ := by rw [← qz]; exact hacc
 have hok := hG.accs _ (List.mem_of_getElem? ha)
 have hrep := hG.reps _ (List.mem_of_getElem? (by rw [← qz]; exact hr))
 simp only [Rep, RepC] at hrep
 obtain ⟨a', cap, heq, hle, hb⟩ := hrep
 simp only [List.cons.injEq, Value.slice.injEq, and_true] at heq
 obtain ⟨rfl, rfl, rfl⟩ := heq
 have hut : P.underlying t = some (.slice e) := hu
 -- put together
 have fin : ∀ v' w' a', a' = (⟨v', k, e, ds ++ es⟩ : Acc) → (∃ b' c', v' = .slice b' (ds.length + es.length) c') → (Builtin.append_ #[t, t] ty #[v, .slice a es.length c]).run P w = .ok v' w' → w'.os = w.os → w'.output = w.output → w.heap.size ≤ w'.heap.size → (∀ b, b < w.heap.size → b ∉ accBlk v → w'.heap[b]? = w.heap[b]?) → (accBlk v').Nodup →
   (∀ b ∈ accBlk v', (b ∈ accBlk v ∨ w.heap.size ≤ b) ∧ b < w'.heap.size) → (∀ J', (∀ x, x < w.heap.size → Jx J (mutS ℓ S) x → J' x ∧ w'.heap[x]? = w.heap[x]?) → AccOK J' w' a') →
   ∃ r ℓ' S' w', (Builtin.append_ #[t, t] ty (qc ℓ [.v v, .v (.slice a es.length c)]).toArray).run P w = .ok (r.den ℓ') w' ∧ r.wf S'.own.length = true ∧ ℓ <+: ℓ' ∧ Ext (mutS ℓ S) w w' ∧ Good J ℓ' S' w' ∧ (∀ b ∈ mutS ℓ' S', b ∈ mutS ℓ S ∨ w.heap.size ≤ b) ∧ K r S' := by
  intro v' w' a' ea hv' hrun h1 h2 h3 h4 h5 h6 h7
  subst ea
  obtain ⟨b', c', rfl⟩ := hv'
  obtain ⟨hG', hf⟩ := hG.regrow hJ ha h3 h4 h5 h6 h7
  refine ⟨.v (.slice b' (ds.length + es.length) c'), ℓ, _, w', hrun, rfl, List.prefix_refl _, ⟨h1, h2, h3, fun b hb hm => h4 b hb (fun hb' => hm ?_)⟩, hG', hf, h b' c'⟩
  simp only [mutS]
  exact List.mem_append.2 (.inr (List.mem_flatMap.2 ⟨_, List.mem_of_getElem? ha, hb'⟩))
 -- nothing is appended
 by_cases hes : es = []
 ·subst hes
  rcases hok with ⟨hv, hd⟩ | ⟨b, cp, cc, hv, hbb, hcs, hl, hre⟩
  ·simp only at hv hd
   subst hv hd
   refine fin (.slice none 0 0) w _ rfl ⟨_, _, rfl⟩ ?_ rfl rfl (Nat.le_refl _) (fun _ _ _ => rfl) (by simp [accBlk]) (by simp [accBlk]) (fun J' _ => .inl ⟨rfl, rfl⟩)
   cases a with
   | none => simp [Builtin.append_, run_underlying hut, sizeOf, typeInfo, hi, Builtin.lenOf, run_firstCells_none]
   | some ad =>
    have hf := run_firstCells_some (P := P) w ti.size 0 ad 0 c [] (by simp) (by simp)
    simp [Builtin.append_, run_underlying hut, sizeOf, typeInfo, hi, Builtin.lenOf, hf]
  ·simp only at hv
   subst hv
   refine fin (.slice (some ⟨b, 0, none⟩) ds.length cp) w _ rfl ⟨_, _, rfl⟩ ?_ rfl rfl (Nat.le_refl _) (fun _ _ _ => rfl) (by simp [accBlk]) (fun x hx => ⟨.inl hx, hG.lt x (by simp only [mutS]; exact List.mem_append.2 (.inr (List.mem_flatMap.2 ⟨_, List.mem_of_getElem? ha, hx⟩)))⟩) (fun J' hj => ?_)
   ·cases a with
    | none => simp [Builtin.append_, run_underlying hut, sizeOf, typeInfo, hi, Builtin.lenOf, run_firstCells_none, hl.1, storeCells]
    | some ad =>
     have hf := run_firstCells_some (P := P) w ti.size 0 ad 0 c [] (by simp) (by simp)
     simp [Builtin.append_, run_underlying hut, sizeOf, typeInfo, hi, Builtin.lenOf, hf, hl.1, storeCells]
   ·refine .inr ⟨b, cp, cc, by simp, hbb, hcs, by simpa using hl, ?_⟩
    simp only [List.append_nil]
    exact RepE.map hj k _ _ hre
 -- something is
 ·obtain ⟨bb, off, bc, bT, fz, rfl, hbj, hbb, hbe⟩ := hb.resolve_left hes
  have hpos : 0 < es.length := List.length_pos_iff.2 hes
  let news := (bc.toList.drop off).take (es.length * k)
  have hnl : news.length = es.length * k := by
   have := hbe.len
   simp only [news, List.length_take]; omega
  have hnews : ∀ q u, news[q]? = some u → w.cell? ((⟨bb, off, none⟩ : Addr).add q) = some u := by
   intro q u hq
   simp only [news, List.getElem?_take, List.getElem?_drop] at hq
   split at hq
   ·rw [qbi]
    simp only [World.cell?, hbb]
    simpa using hq
   ·cases hq
  have hone : ∀ u ∈ news, u.oneCell' = true := RepE.one es _ hbe
  have hrn : ∀ {J' : Nat → Prop} {w' : World}, (∀ x, x < w.heap.size → Jx J (mutS ℓ S) x → J' x ∧ w'.heap[x]? = w.heap[x]?) → RepE J' w' k es news := by
   intro J' w' hj
   refine RepE.cut (RepE.map hj k es _ hbe) (Nat.le_of_eq hnl.symm) ?_
   simp only [news, List.take_take, Nat.min_self]
  rcases hok with ⟨hv, hd⟩ | ⟨b, cp, cc, hv, hgb, hcs, hl, hre⟩
  ·simp only at hv hd
   subst hv hd
   simp only [List.length_nil, Nat.zero_add] at hlim hlen
   have hrun := run_append_nil (P := P) w t ty e ti z hut hi hz ⟨bb, off, none⟩ es.length c news (by rw [hik]; exact hnl) hnews hpos (by omega) (by rw [hby]; omega)
   have hge := grownCap_ge w es.length 0 e
   refine fin _ _ _ rfl ⟨some ⟨w.heap.size, 0, none⟩, grownCap w es.length 0 e, by simp⟩ hrun rfl rfl (by simp) ?_ (by simp [accBlk]) ?_ ?_
   ·intro x hx _
    show (w.drew.heap.push _)[x]? = _
    rw [Array.getElem?_push, if_neg (by show ¬ x = w.heap.size; omega)]; rfl
   ·intro x hx
    simp [accBlk] at hx
    subst hx
    exact ⟨.inr (Nat.le_refl _), by show w.heap.size < (w.heap.push _).size; simp⟩
   ·intro J' hj
    refine .inr ⟨w.heap.size, grownCap w es.length 0 e, _, by simp, World.alloc_heap_new w.drew _, ?_, by simp; exact ⟨hge, hlen⟩, ?_⟩
    ·simp only [Array.size_append, List.size_toArray, hnl, size_zeroCells, hzk, ← Nat.add_mul]
     congr 1; omega
    ·simp only [List.nil_append, Array.toList_append]
     exact RepE.cut (hrn hj) (by simp [hnl]) (by rw [List.take_append_of_le_length (by simp [hnl])])
  ·simp only at hv hgb hcs hl hre
   subst hv
   have hlen' : ((ds ++ es).length) = ds.length + es.length := by simp
   by_cases hroom : ds.length + es.length ≤ cp
   ·have hfit : ds.length * ti.size + news.length ≤ cc.size := by rw [hik, hnl, hcs, ← Nat.add_mul]; exact Nat.mul_le_mul_right _ hroom
    have hrun := run_append_room (P := P) w t ty e ti hut hi b ds.length cp cc hgb ⟨bb, off, none⟩ es.length c news (by rw [hik]; exact hnl) hnews hone hroom hfit
    rw [hik] at hrun hfit
    refine fin _ _ _ rfl ⟨_, _, rfl⟩ hrun rfl rfl (by simp) ?_ (by simp [accBlk]) ?_ ?_
    ·intro x hx hm
     exact setRow_other w b x _ (fun e => hm (by simp [accBlk, e]))
    ·intro x hx
     simp [accBlk] at hx
     subst hx
     exact ⟨.inl (by simp [accBlk]), by simpa using qad hgb⟩
    ·intro J' hj
     refine .inr ⟨b, cp, _, by rw [hlen'], setRow_heap w b cc _ e _ hgb, ?_, by rw [hlen']; exact ⟨hroom, hlen⟩, ?_⟩
     ·simp only [List.size_toArray, List.length_append, List.length_take, List.length_drop, Array.length_toList]
      omega
     ·have h1 := RepE.map hj k ds _ hre
      have hdl := hre.len
      have h2 : RepE J' (w.setRow b (cc.toList.take (ds.length * k) ++ news ++ cc.toList.drop (ds.length * k + news.length)).toArray) k (ds ++ es) (cc.toList.take (ds.length * k) ++ news) := by
       have htl : (cc.toList.take (ds.length * k)).length = ds.length * k := by rw [List.length_take, Nat.min_eq_left hdl]
       exact RepE.append (RepE.cut h1 (Nat.le_of_eq htl.symm) (by rw [List.take_take, Nat.min_self])) htl (hrn hj)
      exact RepE.cut h2 (by simp [hnl, Nat.add_mul]; have := hdl; simp at this; omega) (by
       rw [List.append_assoc]
       rw [← List.append_assoc, List.take_append_of_le_length]
       simp [hnl, Nat.add_mul]; have := hdl; simp at this; omega)
   ·have hlo : ((cc.toList).take (ds.length * k)).length = ds.length * ti.size := by
     have := hre.len
     rw [hik, List.length_take]; omega
    have holds : ∀ q u, ((cc.toList).take (ds.length * k))[q]? = some u → w.cell? ((⟨b, 0, none⟩ : Addr).add q) = some u := by
     intro q u hq
     rw [List.getElem?_take] at hq
     split at hq
     ·rw [qbi]
      simp only [World.cell?, hgb, Nat.zero_add]
      simpa using hq
     ·cases hq
    have hrun := run_append_grow (P := P) w t ty e ti z hut hi hz ⟨b, 0, none⟩ ds.length cp ((cc.toList).take (ds.length * k)) hlo holds ⟨bb, off, none⟩ es.length c news (by rw [hik]; exact hnl) hnews (by omega) (by omega) (growslice_fits (by omega) (by rw [hby]; exact hlim))
    have hge := grownCap_ge w (ds.length + es.length) cp e
    refine fin _ _ _ rfl ⟨_, _, rfl⟩ hrun rfl rfl (by simp) ?_ (by simp [accBlk]) ?_ ?_
    ·intro x hx _
     show (w.drew.heap.push _)[x]? = _
     rw [Array.getElem?_push, if_neg (by show ¬ x = w.heap.size; omega)]; rfl
    ·intro x hx
     simp [accBlk] at hx
     subst hx
     exact ⟨.inr (Nat.le_refl _), by show w.heap.size < (w.heap.push _).size; simp⟩
    ·intro J' hj
     refine .inr ⟨w.heap.size, grownCap w (ds.length + es.length) cp e, _, by rw [hlen'], World.alloc_heap_new w.drew _, ?_, by rw [hlen']; exact ⟨hge, hlen⟩, ?_⟩
     ·rw [hik] at hlo
      simp only [Array.size_append, List.size_toArray, hnl, hlo, size_zeroCells, hzk, ← Nat.add_mul]
      congr 1; omega
     ·simp only [Array.toList_append]
      rw [hik] at hlo
      have h1 := RepE.map hj k ds _ hre
      have h2 := RepE.append (RepE.cut h1 (ys := cc.toList.take (ds.length * k)) (Nat.le_of_eq hlo.symm) (by rw [List.take_take, Nat.min_self])) hlo (hrn hj)
      exact RepE.cut h2 (by simp only [List.length_append, hlo, hnl, hlen', Nat.add_mul]; omega) (by rw [List.take_append_of_le_length]; simp only [List.length_append, hlo, hnl, hlen', Nat.add_mul]; omega)
theorem qoo (S : St) (n : Nat) (hn : n ≤ S.own.length) (hwf : ∀ k ∈ S.own.take n, k.wf n = true) (reps : List (Value × D)) (hr : ∀ p ∈ reps, p ∈ S.reps ∨ ∃ a ∈ S.accs, p = (a.v, .sl a.k a.ds)) : StLe S ⟨S.own.take n, [], reps⟩ := by
 refine ⟨by rw [List.length_take]; omega, fun J ℓ w h => ?_⟩
 obtain ⟨_, h2⟩ := StLe.part S n hn hwf [] (List.nil_sublist _) (reps.filter (fun _ => false)) (by simp)
 obtain ⟨hg, hm⟩ := h2 J ℓ w h
 refine ⟨⟨hg.len, hg.nodup, hg.lt, hg.memJ, hg.wf, hg.own, by simp, fun p hp => ?_⟩, hm⟩
 have hx : ∀ x, x < w.heap.size → Jx J (mutS ℓ S) x → Jx J (mutS (ℓ.take (S.own.take n).length) ⟨S.own.take n, [], reps⟩) x ∧ w.heap[x]? = w.heap[x]? := fun x _ hj => ⟨⟨hj.1, fun hmm => hj.2 (hm x hmm)⟩, rfl⟩
 rcases hr p hp with h1 | ⟨a, ha, rfl⟩
 ·exact (h.reps p h1).map hx
 ·have hok := h.accs a ha
  simp only [Rep, RepC]
  rcases hok with ⟨hv, hd⟩ | ⟨b, cp, cc, hv, hgb, hcs, hl, hre⟩
  ·rw [hv, hd]
   exact ⟨none, 0, rfl, ⟨Nat.le_refl _, Nat.zero_le _⟩, .inl rfl⟩
  ·rw [hv]
   have hbm : b ∈ S.accs.flatMap (fun a => accBlk a.v) := List.mem_flatMap.2 ⟨a, ha, by simp [hv, accBlk]⟩
   have hnd := h.nodup
   simp only [mutS] at hnd
   rw [List.nodup_append] at hnd
   refine ⟨_, cp, rfl, hl, .inr ⟨b, 0, cc, a.T, (0, 0), rfl, ⟨h.memJ b (by simp only [mutS]; exact List.mem_append.2 (.inr hbm)), fun hmm => ?_⟩, hgb, ?_⟩⟩
   ·simp only [mutS, List.flatMap_nil, List.append_nil, List.length_take, Nat.min_eq_left hn] at hmm
    exact hnd.2.2 b ((qct n).subset hmm) b hbm rfl
   ·simpa using RepE.map hx a.k _ _ hre
theorem qfl {r : SV} {S : St} {R : SV → List (Value × D) → Prop} (out : List (Value × D)) (hr : r.wf 0 = true) (ho : ∀ p ∈ out, p ∈ S.reps ∨ ∃ a ∈ S.accs, p = (a.v, .sl a.k a.ds)) (h : R r out) : AtRet 0 (.ret r) S (fun o S' => ∃ r out, o = .ret r ∧ S' = ⟨[], [], out⟩ ∧ r.wf 0 = true ∧ R r out) :=
 ⟨⟨[], [], out⟩, qoo S 0 (Nat.zero_le _) (by simp) out ho, Nat.zero_le _, hr, r, out, rfl, rfl, hr, h⟩
end

section
open Go
def entries (q : IntKind) : List (Int × Value) → Nat → List MapEntry
 | [], _ => []
 | (k, v) :: r, i => ⟨.int q k, v, i⟩ :: entries q r (i + 1)
def mapO (q : IntKind) (l : List (Int × Value)) : Obj := .map (entries q l 0).toArray l.length
def lookM : List (Int × Value) → Int → Option Value
 | [], _ => none
 | (k, v) :: r, n => if n = k then some v else lookM r n
def putAt (n : Int) (v : Value) : List (Int × Value) → List (Int × Value)
 | [] => [(n, v)]
 | (k, u) :: r => if n = k then (k, v) :: r else (k, u) :: putAt n v r
theorem qe1 (q : IntKind) : ∀ (l : List (Int × Value)) (i : Nat), (entries q l i).length = l.length
 | [], _ => rfl
 | _ :: r, i => by simp [entries, qe1 q r]
theorem qez (q : IntKind) : ∀ (l l' : List (Int × Value)) (i : Nat), entries q (l ++ l') i = entries q l i ++ entries q l' (i + l.length)
 | [], l', i => by simp [entries]
 | (k, v) :: r, l', i => by
  simp only [List.cons_append, entries, qez q r l', List.length_cons]
  congr 3; omega
theorem qcr (q : IntKind) (n : Int) : ∀ (l : List (Int × Value)) (i j : Nat), Instr.findNow (.int q) (.int q n) (entries q l i) j =
  some (match l.findIdx? (fun p => n = p.1) with
   | some m => (l[m]?).map (fun p => (j + m, p.2))
   | none => none)
 | [], i, j => by simp [entries, Instr.findNow]
 | (k, v) :: r, i, j => by
  simp only [entries, Instr.findNow, Instr.sameNow, if_true]
  by_cases h : n = k
  ·subst h; simp [List.findIdx?_cons]
  ·have hb : (n == k) = false := by simpa using h
   simp only [hb, qcr q n r (i + 1) (j + 1), List.findIdx?_cons, h, decide_false]
   cases hf : r.findIdx? (fun p => n = p.1) with
   | none => simp
   | some m =>
    have e : j + 1 + m = j + (m + 1) := by omega
    simp [e]
theorem look_idx (n : Int) : ∀ (l : List (Int × Value)), lookM l n = match l.findIdx? (fun p => n = p.1) with
  | some m => (l[m]?).map (·.2)
  | none => none
 | [] => rfl
 | (k, v) :: r => by
  simp only [lookM, List.findIdx?_cons]
  by_cases h : n = k
  ·subst h; simp
  ·rw [if_neg h, look_idx n r]
   simp only [h, decide_false]
   cases hf : r.findIdx? (fun p => n = p.1) with
   | none => simp
   | some m => simp
theorem qkq (n : Int) (v : Value) : ∀ (l : List (Int × Value)), l.findIdx? (fun p => n = p.1) = none → putAt n v l = l ++ [(n, v)]
 | [], _ => rfl
 | (k, u) :: r, h => by
  simp only [List.findIdx?_cons] at h
  by_cases hk : n = k
  ·subst hk; simp at h
  ·simp only [putAt, if_neg hk, List.cons_append]
   rw [qkq n v r]
   cases hf : r.findIdx? (fun p => n = p.1) with
   | none => rfl
   | some m => rw [hf] at h; simp [hk] at h
theorem qkk (q : IntKind) (n : Int) (v : Value) : ∀ (l : List (Int × Value)) (m i : Nat), l.findIdx? (fun p => n = p.1) = some m → (entries q l i).modify m (fun e => { e with key := .int q n, val := v }) = entries q (putAt n v l) i ∧ (putAt n v l).length = l.length
 | [], m, i, h => by simp at h
 | (k, u) :: r, m, i, h => by
  simp only [List.findIdx?_cons] at h
  by_cases hk : n = k
  ·subst hk
   simp at h
   subst h
   simp [putAt, entries]
  ·simp only [hk, decide_false] at h
   cases hf : r.findIdx? (fun p => n = p.1) with
   | none => rw [hf] at h; simp at h
   | some m' =>
    rw [hf] at h
    simp at h
    subst h
    obtain ⟨h1, h2⟩ := qkk q n v r m' (i + 1) hf
    simp only [putAt, if_neg hk, entries, List.modify_succ_cons, h1, List.length_cons, h2, and_self]
theorem qn9 (q : IntKind) (l : List (Int × Value)) (i m : Nat) : ((entries q l i)[m]?).map (·.key) = (l[m]?).map (fun p => Value.int q p.1) := by
 induction l generalizing i m with
 | nil => simp [entries]
 | cons p r ih =>
  obtain ⟨k, v⟩ := p
  cases m with
  | zero => simp [entries]
  | succ m => simpa [entries] using ih (i + 1) m
theorem qd2 {P : Program} {k : TypeId} {q : IntKind} (hk : P.underlying k = some (.int q)) (b : Bool) (n : Int) (w : World) : (Instr.checkKey b 10000 k (.int q n)).run P w = .ok () w := by
 unfold Instr.checkKey
 simp [run_underlying hk]
theorem qgv {P : Program} {t : TypeId} (q : IntKind) {S : St} {K : SV → St → Prop} (h : forceL (S.own ++ [.obj (mapO q [])]) (fun own => putOwn S own (fun S' => K (.mp S.own.length) S'))) : AtSem P (fun ℓ => Instr.makeMap t (denO ℓ none)) S K := by
 rw [qq, qag] at h
 constructor
 intro J ℓ w hG hJ
 have hold : ∀ x, x < w.heap.size → (w.alloc (mapO q [])).heap[x]? = w.heap[x]? := fun x hx => by
  show (w.heap.push _)[x]? = _
  rw [Array.getElem?_push, if_neg (by omega)]
 have hm := qdg hG.len (S := S) ⟨w.heap.size, 0⟩ (.obj (mapO q []))
 refine ⟨.mp S.own.length, ℓ ++ [⟨w.heap.size, 0⟩], _, w.alloc (mapO q []), ?_, by simp [SV.wf], List.prefix_append _ _, ⟨rfl, rfl, by simp, fun x hx _ => hold x hx⟩, ?_, ?_, h⟩
 ·simp only [Instr.makeMap, denO, SV.den]
  rw [← hG.len, qdy]
  simp [mapO, entries]
 ·exact hG.push ⟨w.heap.size, 0⟩ (.obj _) rfl (fun _ => ⟨Nat.le_refl _, by simp, hJ _ (Nat.le_refl _)⟩) (by simp) hold ⟨rfl, World.alloc_heap_new w _⟩
 ·intro x hx
  rcases (hm x).1 hx with h1 | ⟨_, h1⟩
  ·exact .inl h1
  ·subst h1; exact .inr (Nat.le_refl _)
theorem qfb {J : Nat → Prop} {ℓ : List Base} {S : St} {w : World} (hG : Good J ℓ S w) {i : Nat} {o : Obj} (hi : nth S.own i = some (.obj o)) : ∃ b, ℓ[i]? = some b ∧ S.own[i]? = some (.obj o) ∧ (ℓ.getD i default).block = b.block ∧ b.off = 0 ∧ w.heap[b.block]? = some o := by
 have hk : S.own[i]? = some (.obj o) := by rw [← qz]; exact hi
 obtain ⟨b, hb, hok⟩ := qgh hG hk
 simp only [BlkOK] at hok
 exact ⟨b, hb, hk, by simp [List.getD, hb], hok.1, hok.2⟩
theorem qbz {P : Program} {w : World} {r : Nat} {es : Array MapEntry} {c : Nat} (h : w.heap[r]? = some (.map es c)) : (getObj r).run P w = .ok (.map es c) w := by simp [getObj, Sem.run, h]
theorem qeo {P : Program} {w : World} {r : Nat} {es : Array MapEntry} {c : Nat} (o' : Obj) (h : w.heap[r]? = some (.map es c)) : (setObj r o').run P w = .ok () (w.putObj r o') := by simp [setObj, Sem.run, h, World.putObj]
theorem Good.putObj {J : Nat → Prop} {ℓ : List Base} {S : St} {w : World} (hG : Good J ℓ S w) {i : Nat} {b : Base} {k k' : Blk} (hk : S.own[i]? = some k) (hb : ℓ[i]? = some b) (hm : k.mut = true) (hm' : k'.mut = true) (hwf : k'.wf S.own.length = true) (o' : Obj)
  (hok : BlkOK (Jx J (mutS ℓ S)) ℓ (w.putObj b.block o') b k') : Ext (mutS ℓ S) w (w.putObj b.block o') ∧ Good J ℓ ⟨S.own.set i k', S.accs, S.reps⟩ (w.putObj b.block o') ∧ ∀ x ∈ mutS ℓ ⟨S.own.set i k', S.accs, S.reps⟩, x ∈ mutS ℓ S ∨ w.heap.size ≤ x := by
 have hbm : b.block ∈ mutS ℓ S := by simp only [mutS]; exact List.mem_append.2 (.inl (mem_mutL.2 ⟨i, b, k, hb, hk, hm, rfl⟩))
 have hmut : mutS ℓ ⟨S.own.set i k', S.accs, S.reps⟩ = mutS ℓ S := by
  simp only [mutS]; rw [qdz hk (hm'.trans hm.symm)]
 have hoth : ∀ y, y ≠ b.block → (w.putObj b.block o').heap[y]? = w.heap[y]? := fun y hy => World.putObj_heap_other hy
 refine ⟨⟨rfl, rfl, by simp, fun y _ hy => hoth y (fun e => hy (e ▸ hbm))⟩, ?_, fun x hx => .inl (by rw [hmut] at hx; exact hx)⟩
 exact hG.update hk hb hm hm' hwf (by simp) (fun y _ hy => hoth y hy) hok
theorem at_lookup {P : Program} {tt : Tab} (hT : TTOK P tt) {t k e : TypeId} {q : IntKind} {x ix : SV} {S : St} {K : SV → St → Prop} {i : Nat} {n : Int} {l : List (Int × Value)} {ok : Bool} (z : Value) (ht : tt t = some (.map k e)) (hk : P.underlying k = some (.int q)) (hz : ∀ w, (zeroValue e).run P w = .ok z w)
  (hx : x = .mp i) (hi : nth S.own i = some (.obj (mapO q l))) (hix : ix = .v (.int q n))
  (h1 : ∀ v, lookM l n = some v → K (if ok then .tup [.v v, .v (.bool true)] else .v v) S) (h2 : lookM l n = none → K (if ok then .tup [.v z, .v (.bool false)] else .v z) S) : AtSem P (fun ℓ => Instr.lookup t (x.den ℓ) (ix.den ℓ) ok) S K := by
 subst hx hix
 constructor
 intro J ℓ w hG hJ
 obtain ⟨b, hb, hk', hbl, hoff, hh⟩ := qfb hG hi
 have hu := (hT t _ ht).2
 have hrun : (Instr.lookup t ((SV.mp i).den ℓ) ((SV.v (.int q n)).den ℓ) ok).run P w = .ok ((match lookM l n with
   | some v => (if ok then SV.tup [.v v, .v (.bool true)] else .v v)
   | none => (if ok then .tup [.v z, .v (.bool false)] else .v z)).den ℓ) w := by
  simp only [Instr.lookup, SV.den, Sem.run_bind, qk hu, Result.andThen_ok]
  have hg := qbz (P := P) hh
  rw [hbl]
  simp only [Sem.run_bind, hg, Result.andThen_ok, Sem.run_pure]
  simp only [qd2 hk, Result.andThen_ok, Instr.findKey, Sem.run_bind, run_underlying hk, qcr]
  rw [look_idx]
  cases hf : l.findIdx? (fun p => n = p.1) with
  | none => simp [hz, Result.andThen]; cases ok <;> simp [SV.den, qc]
  | some m =>
   have hlt : m < l.length := by
    obtain ⟨hlt, _⟩ := List.findIdx?_eq_some_iff_getElem.1 hf
    exact hlt
   simp only [List.getElem?_eq_getElem hlt, Option.map_some, Sem.run_pure, Result.andThen_ok]
   cases ok <;> simp [SV.den, qc]
 cases hl : lookM l n with
 | some v =>
  rw [hl] at hrun
  exact ⟨_, ℓ, S, w, hrun, by cases ok <;> rfl, List.prefix_refl _, Ext.refl _ _, hG, fun b hb => .inl hb, h1 v hl⟩
 | none =>
  rw [hl] at hrun
  exact ⟨_, ℓ, S, w, hrun, by cases ok <;> rfl, List.prefix_refl _, Ext.refl _ _, hG, fun b hb => .inl hb, h2 hl⟩
theorem qm0 {P : Program} {tt : Tab} (hT : TTOK P tt) {t k e : TypeId} {q : IntKind} {x ix y : SV} {S : St} {K : SV → St → Prop} {i : Nat} {n : Int} {l : List (Int × Value)} (v : Value) (ht : tt t = some (.map k e)) (hk : P.underlying k = some (.int q))
  (hx : x = .mp i) (hi : nth S.own i = some (.obj (mapO q l))) (hix : ix = .v (.int q n)) (hy : ∀ ℓ, y.den ℓ = v)
  (h : forceL (setNth S.own i (.obj (mapO q (putAt n v l)))) (fun own => putOwn S own (fun S' => K undefS S'))) : AtSem P (fun ℓ => do Instr.mapUpdate t (x.den ℓ) (ix.den ℓ) (y.den ℓ); pure undef) S K := by
 subst hx hix
 rw [qq, qag] at h
 constructor
 intro J ℓ w hG hJ
 obtain ⟨b, hb, hk', hbl, hoff, hh⟩ := qfb hG hi
 have hu := (hT t _ ht).2
 have hrun : (Instr.mapUpdate t ((SV.mp i).den ℓ) ((SV.v (.int q n)).den ℓ) (y.den ℓ)).run P w = .ok () (w.putObj b.block (mapO q (putAt n v l))) := by
  simp only [Instr.mapUpdate, SV.den, hy, Sem.run_bind, qk hu, Result.andThen_ok, hbl]
  have hg := qbz (P := P) hh
  simp only [hg, Result.andThen_ok, qd2 hk, Instr.findKey, Sem.run_bind, run_underlying hk, qcr]
  cases hf : l.findIdx? (fun p => n = p.1) with
  | none =>
   simp only [Sem.run_pure, Result.andThen_ok]
   rw [qeo _ hh, qkq n v l hf]
   simp [mapO, qez, entries]
  | some m =>
   obtain ⟨hlt, hpm, _⟩ := List.findIdx?_eq_some_iff_getElem.1 hf
   simp only [decide_eq_true_eq] at hpm
   simp only [List.getElem?_eq_getElem hlt, Option.map_some, Sem.run_pure, Result.andThen_ok, Nat.zero_add]
   have hkey : (((entries q l 0).toArray[m]?).map (·.key)).getD (.int q n) = .int q n := by
    have := qn9 q l 0 m
    simp only [List.getElem?_toArray]
    rw [this, List.getElem?_eq_getElem hlt]
    simp [← hpm]
   rw [hkey]
   have hst : (Instr.keyThatStays (.int q n) (.int q n)).run P w = .ok (.int q n) w := by simp [Instr.keyThatStays, Instr.sameBits]
   simp only [Sem.run_bind, hst, Result.andThen_ok]
   rw [qeo _ hh]
   obtain ⟨h1, h2⟩ := qkk q n v l m 0 hf
   simp only [mapO, h2]
   rw [← h1]
   simp
 obtain ⟨g1, g2, g3⟩ := hG.putObj (k' := .obj (mapO q (putAt n v l))) hk' hb rfl rfl rfl (mapO q (putAt n v l)) ⟨hoff, World.putObj_heap_same (qad hh)⟩
 refine ⟨undefS, ℓ, _, w.putObj b.block (mapO q (putAt n v l)), ?_, rfl, List.prefix_refl _, g1, g2, g3, h⟩
 simp only [Sem.run_bind, hrun, Result.andThen_ok, Sem.run_pure]
 rfl
theorem qcs (q : IntKind) : ∀ (l : List (Int × Value)) (i m : Nat), (entries q l i)[m]? = (l[m]?).map (fun p => ⟨.int q p.1, p.2, i + m⟩)
 | [], i, m => by simp [entries]
 | (k, v) :: r, i, 0 => by simp [entries]
 | (k, v) :: r, i, m + 1 => by
  simp only [entries, List.getElem?_cons_succ, qcs q r (i + 1) m]
  have e : i + 1 + m = i + (m + 1) := by omega
  rw [e]
theorem qe7 {q : IntKind} {l : List (Int × Value)} {e : MapEntry} (h : e ∈ entries q l 0) : ∃ m p, l[m]? = some p ∧ e = ⟨.int q p.1, p.2, m⟩ := by
 obtain ⟨m, hm⟩ := List.getElem?_of_mem h
 rw [qcs] at hm
 cases hp : l[m]? with
 | none => rw [hp] at hm; cases hm
 | some p => rw [hp] at hm; simp at hm; exact ⟨m, p, hp, hm.symm⟩
theorem qj7 {P : Program} (n : Nat) (hn : 0 < n) (w : World) : ∃ j w1, j < n ∧ (w1 = w ∨ w1 = w.drew) ∧ (choose (.mapNext n)).run P w = .ok j w1 := by
 rw [run_choose]
 by_cases h : n ≤ 1
 ·exact ⟨0, w, hn, .inl rfl, by simp [Question.forced, h]⟩
 ·exact ⟨_, _, Nat.mod_lt _ hn, .inr rfl, by simp [Question.forced, h, Question.cut]; rfl⟩
theorem qmy {P : Program} {ty : TypeId} {q : IntKind} {l : List (Int × Value)} {bi bm : Nat} {seen : Array Nat} {w : World} (hi : w.heap[bi]? = some (.mapIter (some bm) l.length seen l.length)) (hm : w.heap[bm]? = some (mapO q l)) :
  ∃ w1, (w1 = w ∨ w1 = w.drew) ∧
   (((∀ m, m < l.length → m ∈ seen) ∧ (Instr.next (.pointer (some ⟨bi, 0, none⟩)) false ty).run P w = .ok (.tuple #[.bool false]) w1) ∨
    ∃ m p, l[m]? = some p ∧ m ∉ seen ∧ (Instr.next (.pointer (some ⟨bi, 0, none⟩)) false ty).run P w = .ok (.tuple #[.bool true, .int q p.1, p.2]) (w1.putObj bi (.mapIter (some bm) l.length (seen.push m) l.length))) := by
 have hgi : (getObj bi).run P w = .ok (.mapIter (some bm) l.length seen l.length) w := by simp [getObj, Sem.run, hi]
 have hgm : (getObj bm).run P w = .ok (.map (entries q l 0).toArray l.length) w := qbz hm
 have hnot : (!seen.isEmpty && !(entries q l 0).toArray.isEmpty && (entries q l 0).toArray.all (·.born ≥ l.length)) = false := by
  cases l with
  | nil => simp [entries]
  | cons p r => obtain ⟨k, v⟩ := p; simp [entries]
 let left := (entries q l 0).toArray.filter fun e => !seen.contains e.born
 have hold : left.filter (·.born < l.length) = left := by
  rw [Array.filter_eq_self]
  intro e he
  simp only [left, Array.mem_filter, List.mem_toArray] at he
  obtain ⟨m, p, hp, rfl⟩ := qe7 he.1
  simpa using (List.getElem?_eq_some_iff.1 hp).1
 have hnew : left.filter (·.born ≥ l.length) = #[] := by
  rw [Array.filter_eq_empty_iff]
  intro e he
  simp only [left, Array.mem_filter, List.mem_toArray] at he
  obtain ⟨m, p, hp, rfl⟩ := qe7 he.1
  simpa using (List.getElem?_eq_some_iff.1 hp).1
 by_cases hl : left = #[]
 ·have hc : ((if left.isEmpty then #[none] else #[]) ++ (left ++ #[]).map some : Array (Option MapEntry)) = #[none] := by simp [hl]
  refine ⟨w, .inl rfl, .inl ⟨?_, ?_⟩⟩
  ·intro m hlt
   have h1 := Array.filter_eq_empty_iff.1 hl
   have h2 := h1 (⟨.int q l[m].1, l[m].2, m⟩ : MapEntry) (by
    rw [List.mem_toArray]
    refine List.mem_of_getElem? (i := m) ?_
    rw [qcs, List.getElem?_eq_getElem hlt]; simp)
   simpa using h2
  ·simp only [Instr.next, Sem.run_bind, hgi, Result.andThen_ok, hgm]
   rw [if_neg (by rw [hnot]; simp)]
   simp only [Sem.run_bind, Sem.run_pure, Result.andThen_ok]
   rw [show (entries q l 0).toArray.filter (fun e => !seen.contains e.born) = left from rfl, hold, hnew, hc]
   simp [Question.forced]
 ·have hc : ((if left.isEmpty then #[none] else #[]) ++ (left ++ #[]).map some : Array (Option MapEntry)) = left.map some := by
   have : left.isEmpty = false := by simpa using hl
   simp [this]
  have hpos : 0 < left.size := by
   rcases Nat.eq_zero_or_pos left.size with h | h
   ·exact (hl (Array.size_eq_zero_iff.1 h)).elim
   ·exact h
  obtain ⟨j, w1, hj, hw1, hch⟩ := qj7 (P := P) (left.map some).size (by simpa using hpos) w
  have hj' : j < left.size := by simpa using hj
  have hmem : left[j] ∈ left := Array.getElem_mem hj'
  have hmem' := hmem
  simp only [left, Array.mem_filter, List.mem_toArray] at hmem'
  obtain ⟨m, p, hp, he⟩ := qe7 hmem'.1
  have hns : m ∉ seen := by
   have := hmem'.2
   rw [he] at this
   simpa using this
  refine ⟨w1, hw1, .inr ⟨m, p, hp, hns, ?_⟩⟩
  have hset : (setObj bi (.mapIter (some bm) l.length (seen.push m) l.length)).run P w1 = .ok () (w1.putObj bi (.mapIter (some bm) l.length (seen.push m) l.length)) := by
   have : w1.heap[bi]? = some (.mapIter (some bm) l.length seen l.length) := by rcases hw1 with rfl | rfl <;> exact hi
   simp [setObj, Sem.run, this, World.putObj]
  simp only [Instr.next, Sem.run_bind, hgi, Result.andThen_ok, hgm]
  rw [if_neg (by rw [hnot]; simp)]
  simp only [Sem.run_bind, Sem.run_pure, Result.andThen_ok]
  rw [show (entries q l 0).toArray.filter (fun e => !seen.contains e.born) = left from rfl, hold, hnew, hc, hch]
  simp only [Result.andThen_ok]
  have hget : (left.map some)[j]? = some (some left[j]) := by simp [hj']
  rw [hget]
  have he' : left[j] = { key := Value.int q p.fst, val := p.snd, born := m } := he
  simp only [Sem.run_bind, he', hset, Result.andThen_ok, Sem.run_pure]
theorem at_range {P : Program} {tt : Tab} (hT : TTOK P tt) {t k e : TypeId} {q : IntKind} {x : SV} {S : St} {K : SV → St → Prop} {i : Nat} {l : List (Int × Value)} (ht : tt t = some (.map k e)) (hx : x = .mp i) (hi : nth S.own i = some (.obj (mapO q l)))
  (h : forceL (S.own ++ [.iter i l.length #[] l.length]) (fun own => putOwn S own (fun S' => K (.loc S.own.length 0) S'))) : AtSem P (fun ℓ => Instr.range t (x.den ℓ)) S K := by
 subst hx
 rw [qq, qag] at h
 constructor
 intro J ℓ w hG hJ
 obtain ⟨b, hb, hk', hbl, hoff, hh⟩ := qfb hG hi
 have hu := (hT t _ ht).2
 have hilt : i < S.own.length := (List.getElem?_eq_some_iff.1 hk').1
 have hold : ∀ x, x < w.heap.size → (w.alloc (.mapIter (some b.block) l.length #[] l.length)).heap[x]? = w.heap[x]? := fun x hx => by
  show (w.heap.push _)[x]? = _
  rw [Array.getElem?_push, if_neg (by omega)]
 have hm := qdg hG.len (S := S) ⟨w.heap.size, 0⟩ (.iter i l.length #[] l.length)
 refine ⟨.loc S.own.length 0, ℓ ++ [⟨w.heap.size, 0⟩], _, w.alloc (.mapIter (some b.block) l.length #[] l.length), ?_, by simp [SV.wf], List.prefix_append _ _, ⟨rfl, rfl, by simp, fun x hx _ => hold x hx⟩, ?_, ?_, h⟩
 ·have hg : (getObj b.block).run P w = .ok (.map (entries q l 0).toArray l.length) w := qbz hh
  simp only [Instr.range, SV.den, Sem.run_bind, qk hu, Result.andThen_ok, hbl, hg, Sem.run_pure]
  rw [← hG.len, qdy]
  simp
 ·refine hG.push ⟨w.heap.size, 0⟩ (.iter i l.length #[] l.length) (by simp [Blk.wf, hilt]) (fun _ => ⟨Nat.le_refl _, by simp, hJ _ (Nat.le_refl _)⟩) (by simp) hold ⟨rfl, ?_⟩
  rw [hbl]
  exact World.alloc_heap_new w _
 ·intro x hx
  rcases (hm x).1 hx with h1 | ⟨_, h1⟩
  ·exact .inl h1
  ·subst h1; exact .inr (Nat.le_refl _)
theorem Good.drew {J : Nat → Prop} {ℓ : List Base} {S : St} {w : World} (h : Good J ℓ S w) : Good J ℓ S w.drew := h.kept (fun _ h => h) (Nat.le_refl _) (fun _ _ _ => rfl)
theorem own_iter {J : Nat → Prop} {ℓ : List Base} {S : St} {w : World} (hG : Good J ℓ S w) {i j since : Nat} {seen : Array Nat} {stepped : Nat} (hi : nth S.own i = some (.iter j since seen stepped)) : ∃ b, ℓ[i]? = some b ∧ S.own[i]? = some (.iter j since seen stepped) ∧ (ℓ.getD i default).block = b.block ∧ (ℓ.getD i default).off = 0 ∧ b.off = 0 ∧ w.heap[b.block]? = some (.mapIter (some (ℓ.getD j default).block) since seen stepped) := by
 have hk : S.own[i]? = some (.iter j since seen stepped) := by rw [← qz]; exact hi
 obtain ⟨b, hb, hok⟩ := qgh hG hk
 simp only [BlkOK] at hok
 exact ⟨b, hb, hk, by simp [List.getD, hb], by simp [List.getD, hb, hok.1], hok.1, hok.2⟩
theorem at_next {P : Program} {ty : TypeId} {q : IntKind} {x : SV} {S : St} {K : SV → St → Prop} {i j : Nat} {l : List (Int × Value)} {seen : Array Nat} (hx : x = .loc i 0) (hi : nth S.own i = some (.iter j l.length seen l.length)) (hj : nth S.own j = some (.obj (mapO q l)))
  (h0 : (∀ m, m < l.length → m ∈ seen) → K (.tup [.v (.bool false)]) S)
  (h1 : ∀ m p, l[m]? = some p → m ∉ seen → forceL (setNth S.own i (.iter j l.length (seen.push m) l.length)) (fun own => putOwn S own (fun S' => K (.tup [.v (.bool true), .v (.int q p.1), .v p.2]) S'))) : AtSem P (fun ℓ => Instr.next (x.den ℓ) false ty) S K := by
 subst hx
 simp only [qq, qag] at h1
 constructor
 intro J ℓ w hG hJ
 obtain ⟨b, hb, hk, hbl, hbo, hoff, hh⟩ := own_iter hG hi
 obtain ⟨b2, hb2, hk2, hbl2, hoff2, hh2⟩ := qfb hG hj
 rw [hbl2] at hh
 have hden : (SV.loc i 0).den ℓ = .pointer (some ⟨b.block, 0, none⟩) := by simp only [SV.den, hbl, hbo, Nat.zero_add]
 obtain ⟨w1, hw1, hor⟩ := qmy (P := P) (ty := ty) hh hh2
 have hG1 : Good J ℓ S w1 := by rcases hw1 with rfl | rfl; exact hG; exact hG.drew
 have hx1 : Ext (mutS ℓ S) w w1 := by rcases hw1 with rfl | rfl; exact Ext.refl _ _; exact ⟨rfl, rfl, Nat.le_refl _, fun _ _ _ => rfl⟩
 have hh1 : w1.heap[b.block]? = some (.mapIter (some b2.block) l.length seen l.length) := by rcases hw1 with rfl | rfl <;> exact hh
 rcases hor with ⟨hall, hrun⟩ | ⟨m, p, hp, hns, hrun⟩
 ·exact ⟨.tup [.v (.bool false)], ℓ, S, w1, by rw [hden, hrun]; rfl, rfl, List.prefix_refl _, hx1, hG1, fun b hb => .inl hb, h0 hall⟩
 ·have hjlt : j < S.own.length := (List.getElem?_eq_some_iff.1 hk2).1
  obtain ⟨g1, g2, g3⟩ := hG1.putObj (k' := .iter j l.length (seen.push m) l.length) hk hb rfl rfl (by simp [Blk.wf, hjlt]) (.mapIter (some b2.block) l.length (seen.push m) l.length) ⟨hoff, by rw [hbl2]; exact World.putObj_heap_same (qad hh1)⟩
  have hsz : w1.heap.size = w.heap.size := by rcases hw1 with rfl | rfl <;> rfl
  refine ⟨.tup [.v (.bool true), .v (.int q p.1), .v p.2], ℓ, _, _, by rw [hden, hrun]; rfl, rfl, List.prefix_refl _, hx1.trans g1, g2, fun b hb => by rw [← hsz]; exact g3 b hb, h1 m p hp hns⟩
theorem at_entry {P : Program} {q : IntKind} {x : SV} {S : St} {K : SV → St → Prop} {i j m : Nat} {p : Int × Value} {l : List (Int × Value)} {seen : Array Nat} (hx : x = .loc i 0) (hi : nth S.own i = some (.iter j l.length (seen.push m) l.length)) (hj : nth S.own j = some (.obj (mapO q l))) (hp : l[m]? = some p)
  (h : K (.tup [.v (.int q p.1), .v p.2]) S) : AtSem P (fun ℓ => Instr.entry (x.den ℓ)) S K := by
 subst hx
 constructor
 intro J ℓ w hG hJ
 obtain ⟨b, hb, hk, hbl, hbo, hoff, hh⟩ := own_iter hG hi
 obtain ⟨b2, hb2, hk2, hbl2, hoff2, hh2⟩ := qfb hG hj
 rw [hbl2] at hh
 have hden : (SV.loc i 0).den ℓ = .pointer (some ⟨b.block, 0, none⟩) := by simp only [SV.den, hbl, hbo, Nat.zero_add]
 have hgi : (getObj b.block).run P w = .ok (.mapIter (some b2.block) l.length (seen.push m) l.length) w := by simp [getObj, Sem.run, hh]
 have hgm : (getObj b2.block).run P w = .ok (.map (entries q l 0).toArray l.length) w := qbz hh2
 have hfind : (entries q l 0).toArray.find? (·.born == m) = some ⟨.int q p.1, p.2, m⟩ := by
  rw [List.find?_toArray, List.find?_eq_some_iff_getElem]
  refine ⟨by simp, m, by rw [qe1]; exact (List.getElem?_eq_some_iff.1 hp).1, ?_, ?_⟩
  ·have := qcs q l 0 m
   rw [hp] at this
   simpa using (List.getElem?_eq_some_iff.1 this).2
  ·intro j' hj'
   have := qcs q l 0 j'
   have hlt : j' < l.length := by have := (List.getElem?_eq_some_iff.1 hp).1; omega
   rw [List.getElem?_eq_getElem hlt] at this
   have h2 := (List.getElem?_eq_some_iff.1 this).2
   rw [h2]
   simp; omega
 refine ⟨_, ℓ, S, w, ?_, rfl, List.prefix_refl _, Ext.refl _ _, hG, fun b hb => .inl hb, h⟩
 rw [hden]
 simp only [Instr.entry, Sem.run_bind, hgi, Result.andThen_ok, Array.back?_push, hgm]
 rw [if_neg (by simp)]
 simp only [Sem.run_bind, Sem.run_pure, Result.andThen_ok, hfind]
 rfl
end

section
open Go
theorem AtPure.val {P : Program} {m : List Base → Sem Value} {S : St} {K : SV → St → Prop} (r : SV) (hr : r.wf S.own.length = true) (h : ∀ ℓ w, (m ℓ).run P w = .ok (r.den ℓ) w) (k : K r S) : AtPure P m S K :=
 ⟨fun _ ℓ _ hG _ => ⟨r, ℓ, S, fun w' => h ℓ w', hr, List.prefix_refl _, hG, fun _ hb => hb, fun _ _ hi => hi, k⟩⟩
theorem AtSem.val {P : Program} {m : List Base → Sem Value} {S : St} {K : SV → St → Prop} (r : SV) (hr : r.wf S.own.length = true) (h : ∀ ℓ w, (m ℓ).run P w = .ok (r.den ℓ) w) (k : K r S) : AtSem P m S K :=
 ⟨fun _ ℓ w hG _ => ⟨r, ℓ, S, w, h ℓ w, hr, List.prefix_refl _, Ext.refl _ _, hG, fun _ hb => .inl hb, k⟩⟩
theorem at_iface {P : Program} {t : TypeId} {s : SV} {S : St} {K : SV → St → Prop} (hc : P.concrete t = true) (hs : s.wf S.own.length = true) (k : K (.ifc t s) S) : AtPure P (fun ℓ => Instr.makeInterface t (s.den ℓ)) S K :=
 AtPure.val (.ifc t s) (by simpa only [SV.wf] using hs) (fun ℓ w => by rw [run_makeInterface w t _ hc]; rfl) k
theorem at_max {P : Program} {ts : Array TypeId} {t : TypeId} {k k' : IntKind} {x y : Int} {S : St} {K : SV → St → Prop} (h : K (.v (.int k (if y > x then y else x))) S) : AtPure P (fun ℓ => Builtin.max_ ts t (qc ℓ [.v (.int k x), .v (.int k' y)]).toArray) S K :=
 AtPure.val _ rfl (fun _ _ => run_max_int2 ..) h
theorem at_min {P : Program} {ts : Array TypeId} {t : TypeId} {k k' : IntKind} {x y : Int} {S : St} {K : SV → St → Prop} (h : K (.v (.int k (if y < x then y else x))) S) : AtPure P (fun ℓ => Builtin.min_ ts t (qc ℓ [.v (.int k x), .v (.int k' y)]).toArray) S K :=
 AtPure.val _ rfl (fun _ _ => run_min_int2 ..) h
theorem Meets.meth {P : Program} {t : TypeId} {f : FuncId} {name : String} {s : SV} {args : List SV} {S : St} {R : Out → St → Prop} (hm : ∀ v ag w, (callMethod (.iface t v) name ag).run P w = .ok (.enter f (#[v] ++ ag)) w) (hf : ∀ ag w, (callFunc f ag).run P w = .ok (.enter f ag) w)
  (h : Meets P (.val (.fn (.func f) [] [])) (s :: args) S R) : Meets P (.meth (.ifc t s) name) args S R := by
 intro J ℓ w hG hJ
 obtain ⟨nx, h1, h2⟩ := h J ℓ w hG hJ
 refine ⟨nx, ?_, h2⟩
 rw [← h1]
 simp only [Cal.sem, SV.den, qc, Deferred.ofValue, Sem.run_bind, Sem.run_pure, Result.andThen_ok, invoke]
 rw [hf]
 have e1 : (#[Value.iface t (s.den ℓ)] ++ (qc ℓ args).toArray)[0]? = some (Value.iface t (s.den ℓ)) := by simp
 have e2 : (#[Value.iface t (s.den ℓ)] ++ (qc ℓ args).toArray).extract 1 (#[Value.iface t (s.den ℓ)] ++ (qc ℓ args).toArray).size = (qc ℓ args).toArray := by
  apply Array.ext'
  simp [Array.toList_extract, List.extract]
 simp only [e1, e2, hm]
 simp
mutual
theorem SV.ren_id {n : Nat} {r : Nat → Nat} (h : ∀ i, i < n → r i = i) : ∀ (s : SV), s.wf n = true → s.ren r = s
 | .v _, _ => rfl
 | .loc i off, hw => by simp only [SV.wf, blt_true] at hw; simp only [SV.ren, h i hw]
 | .lod i off, hw => by simp only [SV.wf, blt_true] at hw; simp only [SV.ren, h i hw]
 | .slo i off n c, hw => by simp only [SV.wf, blt_true] at hw; simp only [SV.ren, h i hw]
 | .fn f first caps, hw => by
  simp only [SV.wf, Bool.and_eq_true] at hw
  simp only [SV.ren, qbr h first hw.1, qbr h caps hw.2]
 | .agg cs, hw => by simp only [SV.wf] at hw; simp only [SV.ren, qbr h cs hw]
 | .tup xs, hw => by simp only [SV.wf] at hw; simp only [SV.ren, qbr h xs hw]
 | .mp i, hw => by simp only [SV.wf, blt_true] at hw; simp only [SV.ren, h i hw]
 | .ifc t s, hw => by simp only [SV.wf] at hw; simp only [SV.ren, SV.ren_id h s hw]
 | .yld i, hw => by simp only [SV.wf, blt_true] at hw; simp only [SV.ren, h i hw]
theorem qbr {n : Nat} {r : Nat → Nat} (h : ∀ i, i < n → r i = i) : ∀ (l : List SV), qo n l = true → SV.renL r l = l
 | [], _ => rfl
 | s :: ss, hw => by
  simp only [qo, Bool.and_eq_true] at hw
  simp only [SV.renL, SV.ren_id h s hw.1, qbr h ss hw.2]
 end
theorem qmf {n : Nat} {r : Nat → Nat} (h : ∀ i, i < n → r i = i) : ∀ {env : Env}, envWf n env = true → envRen r env = env
 | [], _ => rfl
 | (t, s) :: e, hw => by
  simp only [envWf] at hw
  split at hw
  ·rename_i hs; simp only [envRen, SV.ren_id h s hs, qmf h hw]
  ·cases hw
theorem Blk.ren_id {n : Nat} {r : Nat → Nat} (h : ∀ i, i < n → r i = i) {k : Blk} (hw : k.wf n = true) : k.ren r = k := by
 cases k <;> simp only [Blk.wf, Blk.ren] at hw ⊢
 ·rw [qbr h _ hw]
 ·rw [qbr h _ hw]
 ·rw [qmf h hw]
 ·simp only [blt_true] at hw; rw [h _ hw]
theorem qnp (ks own extra : List Blk) (hl : ks.length = own.length) : setAll (own ++ extra) (List.range own.length) ks = ks ++ extra := by
 have hnd : (List.range own.length).Nodup := List.nodup_range
 apply List.ext_getElem?
 intro i
 rcases Nat.lt_or_ge i own.length with h | h
 ·have hk : ks[i]? = some (ks[i]'(by omega)) := List.getElem?_eq_getElem (by omega)
  rw [qfx _ _ _ i i _ hnd (by simp [h]) hk (by simp; omega), List.getElem?_append_left (by omega), hk]
 ·rw [qb9 _ _ _ i (by simp; omega), List.getElem?_append_right h, List.getElem?_append_right (by omega), hl]
theorem Meets.frame0 {P : Program} {cl : Cal} {args : List SV} {own : List Blk} {accs : List Acc} {rs : List (Value × D)} {R : Out → St → Prop} {S : St} {K : Out → St → Prop} (h : Meets P cl args ⟨own, accs, rs⟩ R) (extra : List Blk) (rest : List Acc) (hS : S.own = own ++ extra) (hac : S.accs.Perm (accs ++ rest))
  (hown : ∀ k ∈ own, k.wf own.length = true) (hrs : ∀ p ∈ rs, p ∈ S.reps) (hargs : qo own.length args = true) (hcl : cl.wf own.length = true)
  (k : ∀ o s', R o s' → s'.own.map Blk.mut = own.map Blk.mut ∧ K o ⟨s'.own ++ extra, s'.accs ++ rest, S.reps ++ s'.reps⟩) : Meets P cl args S K := by
 have hid : ∀ i, i < own.length → rixN (List.range own.length) S.own.length i = i := fun i hi => by simp [rixN, hi, List.getD]
 refine Meets.frameG (rest := rest) h (List.range own.length) ?_ (qbr hid args hargs).symm hac List.nodup_range (by simp) ?_ hrs (by simpa using hargs) (by simpa using hcl) ?_
 ·cases cl with
  | val F => simp only [Cal.ren]; rw [SV.ren_id hid F hcl]
  | meth x name => simp only [Cal.ren]; rw [SV.ren_id hid x hcl]
 ·intro p q hp
  have hlt : p < own.length := (List.getElem?_eq_some_iff.1 hp).1
  have hw := hown q (List.mem_of_getElem? hp)
  refine ⟨p, by simp [hlt], ?_, by simpa using hw⟩
  rw [hS, List.getElem?_append_left hlt, hp, Blk.ren_id (fun i hi => by simp [rixN, hi, List.getD]) hw]
 ·intro o s' hR hwo hws
  obtain ⟨hm, hK⟩ := k o s' hR
  have hl : s'.own.length = own.length := by simpa using congrArg List.length hm
  refine ⟨s'.own, [], by simp, hm, ?_⟩
  have e1 : s'.own.map (Blk.ren (rixN (List.range own.length) S.own.length)) = s'.own := by
   have := List.map_congr_left (f := Blk.ren (rixN (List.range own.length) S.own.length)) (g := id) (l := s'.own) (fun q hq => Blk.ren_id (n := s'.own.length) (by rw [hl]; exact hid) (hws q hq))
   rw [this, List.map_id]
  have e2 : o.ren (rixN (List.range own.length) S.own.length) = o := by
   cases o with
   | ret x => simp only [Out.ren]; rw [SV.ren_id (n := s'.own.length) (by rw [hl]; exact hid) x hwo]
   | pan x => simp only [Out.ren]; rw [SV.ren_id (n := s'.own.length) (by rw [hl]; exact hid) x hwo]
  rw [e1, e2, hS, qnp _ _ _ hl]
  simpa using hK
theorem qhp {m : Nat} {o : Out} {S : St} {R : Out → St → Prop} (own : List Blk) (h1 : S.own.take own.length = own) (hm : Nat.beq own.length m = true) (hle : Nat.ble own.length S.own.length = true) (hwf : wfB own.length own = true) (ho : o.wf own.length = true) (h : R o ⟨own, S.accs, []⟩) : AtRet m o S R :=
 ⟨⟨own, S.accs, []⟩, StLe.of h1 (List.Sublist.refl _) (by simp) hle hwf, Nat.le_of_eq (Nat.eq_of_beq_eq_true hm).symm, ho, h⟩
theorem Good.nilAcc {J : Nat → Prop} {ℓ : List Base} {own : List Blk} {accs : List Acc} {rs : List (Value × D)} {w : World} (k : Nat) (T : TypeId) (h : Good J ℓ ⟨own, accs, rs⟩ w) : Good J ℓ ⟨own, ⟨.slice none 0 0, k, T, []⟩ :: accs, rs⟩ w := by
 have hm : mutS ℓ ⟨own, ⟨.slice none 0 0, k, T, []⟩ :: accs, rs⟩ = mutS ℓ ⟨own, accs, rs⟩ := by simp [mutS, accBlk]
 refine ⟨h.len, by rw [hm]; exact h.nodup, by rw [hm]; exact h.lt, by rw [hm]; exact h.memJ, h.wf, by rw [hm]; exact h.own, ?_, by rw [hm]; exact h.reps⟩
 rw [hm]
 intro a ha
 rcases List.mem_cons.1 ha with e | e
 ·subst e; exact .inl ⟨rfl, rfl⟩
 ·exact h.accs a e
theorem Meets.nilAcc {P : Program} {cl : Cal} {args : List SV} {own : List Blk} {accs : List Acc} {rs : List (Value × D)} {R : Out → St → Prop} (k : Nat) (T : TypeId) (h : Meets P cl args ⟨own, ⟨.slice none 0 0, k, T, []⟩ :: accs, rs⟩ R) : Meets P cl args ⟨own, accs, rs⟩ R := by
 intro J ℓ w hG hJ
 have hm : mutS ℓ ⟨own, ⟨.slice none 0 0, k, T, []⟩ :: accs, rs⟩ = mutS ℓ ⟨own, accs, rs⟩ := by simp [mutS, accBlk]
 obtain ⟨nx, h1, h2⟩ := h J ℓ w (hG.nilAcc k T) hJ
 refine ⟨nx, h1, h2.mono ?_⟩
 rintro e w' ⟨ℓ', o, S', a1, a2, a3, a4, a5, a6, a7⟩
 rw [hm] at a4 a6
 exact ⟨ℓ', o, S', a1, a2, a3, a4, a5, a6, a7⟩
theorem StLe.nilAcc {S : St} {own : List Blk} {accs : List Acc} {rs : List (Value × D)} (k : Nat) (T : TypeId) (h : StLe S ⟨own, accs, rs⟩) : StLe S ⟨own, ⟨.slice none 0 0, k, T, []⟩ :: accs, rs⟩ := by
 refine ⟨h.1, fun J ℓ w hG => ?_⟩
 have hm : ∀ ℓ, mutS ℓ ⟨own, ⟨.slice none 0 0, k, T, []⟩ :: accs, rs⟩ = mutS ℓ ⟨own, accs, rs⟩ := by intro ℓ; simp [mutS, accBlk]
 obtain ⟨h1, h2⟩ := h.2 J ℓ w hG
 exact ⟨h1.nilAcc k T, by rw [hm]; exact h2⟩
def isSl : Value × D → Prop
 | (v, .sl _ ds) => ∃ a c, v = .slice a ds.length c ∧ ds.length ≤ c ∧ ds.length ≤ 1152921504606846976
 | _ => True
theorem qn8 {J : Nat → Prop} {w : World} {p : Value × D} (h : Rep J w p.1 p.2) : isSl p := by
 obtain ⟨v, d⟩ := p
 cases d with
 | sl k ds =>
  simp only [Rep, RepC] at h
  obtain ⟨a, cap, heq, hle, _⟩ := h
  simp only [List.cons.injEq, and_true] at heq
  exact ⟨a, cap, heq, hle.1, hle.2⟩
 | _ => trivial
theorem Pure.opened {P : Program} {cl : Cal} {args : List SV} {rs : List (Value × D)} {R : SV → List (Value × D) → Prop} (h : Pure P cl args rs R) : Pure P cl args rs (fun r out => R r out ∧ ∀ p ∈ out, isSl p) := by
 intro J ℓ w hG hJ
 obtain ⟨nx, h1, h2⟩ := h J ℓ w hG hJ
 refine ⟨nx, h1, h2.mono ?_⟩
 rintro e w' ⟨ℓ', o, S', a1, a2, a3, a4, a5, a6, r, out, rfl, rfl, hr, hR⟩
 exact ⟨ℓ', _, _, a1, a2, a3, a4, a5, a6, r, out, rfl, rfl, hr, hR, fun p hp => qn8 (a5.reps p hp)⟩
end
end Go.Tr

namespace Go.Proofs.YtogicnodmgdnbaaGreat
section
open Go.Tr Go Go.Proofs.Tryz
inductive Tm where
 | mk (op hd n : Int) (args : List Tm)
def Tm.op : Tm → Int | .mk o _ _ _ => o
def Tm.hd : Tm → Int | .mk _ h _ _ => h
def Tm.n : Tm → Int | .mk _ _ n _ => n
def Tm.args : Tm → List Tm | .mk _ _ _ a => a
mutual
def Tm.enc : Tm → D
 | .mk o h n a => .agg [.int .i64 o, .int .i64 h, .int .i64 n, .sl 4 (Tm.encL a)]
def Tm.encL : List Tm → List D
 | [] => []
 | t :: ts => t.enc :: Tm.encL ts
 end
theorem Tm.encL_eq : ∀ (l : List Tm), Tm.encL l = l.map Tm.enc
 | [] => rfl
 | t :: ts => by simp only [Tm.encL, List.map_cons, Tm.encL_eq ts]
theorem Tm.encL_length (l : List Tm) : (Tm.encL l).length = l.length := by simp [Tm.encL_eq]
theorem Tm.encL_get {l : List Tm} {i : Nat} {t : Tm} (h : l[i]? = some t) : (Tm.encL l)[i]? = some (.agg [.int .i64 t.op, .int .i64 t.hd, .int .i64 t.n, .sl 4 (Tm.encL t.args)]) := by
 rw [Tm.encL_eq, List.getElem?_map, h]; cases t; rfl
theorem Tm.ind {motive : Tm → Prop} (h : ∀ t, (∀ x ∈ t.args, motive x) → motive t) (t : Tm) : motive t := by
 induction t using Tm.rec (motive_2 := fun ts => ∀ x ∈ ts, motive x) with
 | nil => rename_i x hx; cases hx
 | cons t ts ih1 ih2 => rename_i x hx; rcases List.mem_cons.1 hx with e | e; (subst e; exact ih1); exact ih2 x e
 | mk op hd n args ih => exact h _ ih
abbrev tmS (t : Tm) (a : OA) (c : Nat) : SV := .agg [.v (.int .i64 t.op), .v (.int .i64 t.hd), .v (.int .i64 t.n), .v (.slice a (Tm.encL t.args).length c)]
abbrev tmR (t : Tm) (a : OA) (c : Nat) : Value × D := (.slice a (Tm.encL t.args).length c, .sl 4 (Tm.encL t.args))
abbrev tQ (l : List Tm) (a : OA) (c : Nat) : Value × D := (.slice a (Tm.encL l).length c, .sl 4 (Tm.encL l))
abbrev tU (l : List Tm) (a : OA) (c : Nat) : SV := .v (.slice a (Tm.encL l).length c)
abbrev nQ (l : List Int) (a : OA) (c : Nat) : Value × D := (.slice a (List.map (D.int .i64) l).length c, .sl 1 (List.map (D.int .i64) l))
abbrev nU (l : List Int) (a : OA) (c : Nat) : SV := .v (.slice a (List.map (D.int .i64) l).length c)
abbrev iS (n : Int) : SV := .v (.int .i64 n)
abbrev bS (b : Bool) : SV := .v (.bool b)
abbrev fnS (f : Nat) : Cal := .val (.fn (.func f) [] [])
def okNode (op hd n : Int) (len : Nat) : Bool :=
 if op = 1 then decide ((hd = 0 ∧ n = 0) ∧ len = 0)
 else if op = 2 then decide ((hd = 0 ∧ n = 0) ∧ len = 2)
 else if op = 3 then decide ((hd = 0 ∧ n = 0) ∧ len = 1)
 else if op = 4 then decide (((1 ≤ hd ∧ hd ≤ 3) ∧ 0 ≤ n) ∧ n ≤ 9999)
 else false
mutual
def properF : Tm → Int → Int → Bool × Int
 | .mk op hd n args, depth, k =>
  if 600 < k + 1 ∨ 40 < depth then (false, k + 1)
  else if okNode op hd n args.length = true then properL args (depth + 1) (k + 1) else (false, k + 1)
def properL : List Tm → Int → Int → Bool × Int
 | [], _, k => (true, k)
 | t :: ts, depth, k => match properF t depth k with
  | (true, k') => properL ts depth k'
  | (false, k') => (false, k')
 end
theorem qde (t : Tm) (depth k : Int) : properF t depth k = if 600 < k + 1 ∨ 40 < depth then (false, k + 1)
  else if okNode t.op t.hd t.n t.args.length = true then properL t.args (depth + 1) (k + 1) else (false, k + 1) := by
 cases t; rfl
theorem qcp (t : Tm) : ∀ (depth k : Int), 0 ≤ k → k ≤ 600 → k ≤ (properF t depth k).2 ∧ (properF t depth k).2 ≤ 601 ∧ ((properF t depth k).1 = true → (properF t depth k).2 ≤ 600) := by
 induction t using Tm.ind with
 | h t ih =>
  intro depth k h1 h2
  have hl : ∀ (ts : List Tm), (∀ x ∈ ts, x ∈ t.args) → ∀ (depth k : Int), 0 ≤ k → k ≤ 600 → k ≤ (properL ts depth k).2 ∧ (properL ts depth k).2 ≤ 601 ∧ ((properL ts depth k).1 = true → (properL ts depth k).2 ≤ 600) := by
   intro ts
   induction ts with
   | nil => intro _ depth k h1 h2; simp only [properL]; exact ⟨Int.le_refl _, by omega, fun _ => h2⟩
   | cons x ts ihl =>
    intro hx depth k h1 h2
    have hx1 := ih x (hx x (by simp)) depth k h1 h2
    simp only [properL]
    cases hp : properF x depth k with
    | mk b k' =>
     rw [hp] at hx1
     cases b with
     | true =>
      have := ihl (fun y hy => hx y (by simp [hy])) depth k' (by simp at hx1; omega) (hx1.2.2 rfl)
      simp only at hx1 ⊢
      exact ⟨by omega, this.2.1, this.2.2⟩
     | false => simpa using hx1
  rw [qde]
  split
  ·exact ⟨by simp only; omega, by simp only; omega, fun h => by simp at h⟩
  ·split
   ·have := hl t.args (fun _ h => h) (depth + 1) (k + 1) (by omega) (by omega)
    exact ⟨by omega, this.2.1, this.2.2⟩
   ·exact ⟨by simp; omega, by simp; omega, by simp⟩
end

section
open Go.Tr Go Go.Proofs.Tryz
theorem mixed : Tryz.prog.follows .mixedOrders = true := by kernel_rfl
theorem at_boolNe {x y : Operand} {a b : Bool} {S : St} {K : SV → St → Prop} (h : K (bS (a != b)) S) : AtPure Tryz.prog (fun ℓ => do eqGuard .neq 4 x y ((bS a).den ℓ) ((bS b).den ℓ); binOp .neq 4 ((bS a).den ℓ) ((bS b).den ℓ)) S K := by
 refine AtPure.val _ rfl (fun ℓ w => ?_) h
 cases a <;> cases b <;> kernel_rfl
end

section
open Go Go.Shelf
def sortRen : Go.Shelf.Ren := ⟨fun | 189 => 66 | 125 => 114 | 257 => 113 | 128 => 159 | 129 => 160 | 294 => 150 | 295 => 151 | 296 => 152 | 297 => 153 | 298 => 154 | 299 => 155 | 216 => 156 | 300 => 157 | 301 => 158 | 328 => 179 | 329 => 180 | 330 => 181 | 331 => 182 | 332 => 183 | 215 => 184 | 343 => 192 | n => n, fun | 28 => 29 | 3 => 3 | 46 => 162 | 0 => 0 | 51 => 201 | 53 => 203 | 4 => 4 | 183 => 194 | 182 => 193 | 131 => 157 | 5 => 5 | 9 => 9 | 218 => 215 | 222 => 126 | 228 => 225 | 229 => 87 | n => n, fun  | n => n⟩
theorem sortLays : Go.Proofs.Lays.n189 Tryz.prog sortRen := {
 mixed := by kernel_rfl
 f125 := Tryz.func114.trans (congrArg some (by kernel_rfl))
 f128 := Tryz.func159.trans (congrArg some (by kernel_rfl))
 f129 := Tryz.func160.trans (congrArg some (by kernel_rfl))
 f189 := Tryz.func66.trans (congrArg some (by kernel_rfl))
 f215 := Tryz.func184.trans (congrArg some (by kernel_rfl))
 f216 := Tryz.func156.trans (congrArg some (by kernel_rfl))
 f257 := Tryz.func113.trans (congrArg some (by kernel_rfl))
 f294 := Tryz.func150.trans (congrArg some (by kernel_rfl))
 f295 := Tryz.func151.trans (congrArg some (by kernel_rfl))
 f296 := Tryz.func152.trans (congrArg some (by kernel_rfl))
 f297 := Tryz.func153.trans (congrArg some (by kernel_rfl))
 f298 := Tryz.func154.trans (congrArg some (by kernel_rfl))
 f299 := Tryz.func155.trans (congrArg some (by kernel_rfl))
 f300 := Tryz.func157.trans (congrArg some (by kernel_rfl))
 f301 := Tryz.func158.trans (congrArg some (by kernel_rfl))
 f328 := Tryz.func179.trans (congrArg some (by kernel_rfl))
 f329 := Tryz.func180.trans (congrArg some (by kernel_rfl))
 f330 := Tryz.func181.trans (congrArg some (by kernel_rfl))
 f331 := Tryz.func182.trans (congrArg some (by kernel_rfl))
 f332 := Tryz.func183.trans (congrArg some (by kernel_rfl))
 f343 := Tryz.func192.trans (congrArg some (by kernel_rfl))
 t0 := Tryz.underlying0
 a0 := Tryz.isAgg0
 z0 := Tryz.sizeOf0
 v0 := Tryz.zeroValue0
 t3 := Tryz.underlying3
 a3 := Tryz.isAgg3
 z3 := Tryz.sizeOf3
 v3 := Tryz.zeroValue3
 t4 := Tryz.underlying4
 a4 := Tryz.isAgg4
 z4 := Tryz.sizeOf4
 v4 := Tryz.zeroValue4
 t5 := Tryz.underlying5
 a5 := Tryz.isAgg5
 z5 := Tryz.sizeOf5
 v5 := Tryz.zeroValue5
 t9 := Tryz.underlying9
 a9 := Tryz.isAgg9
 z9 := Tryz.sizeOf9
 v9 := Tryz.zeroValue9
 t28 := Tryz.underlying29
 a28 := Tryz.isAgg29
 z28 := Tryz.sizeOf29
 v28 := Tryz.zeroValue29
 t46 := Tryz.underlying162
 a46 := Tryz.isAgg162
 z46 := Tryz.sizeOf162
 v46 := Tryz.zeroValue162
 t51 := Tryz.underlying201
 a51 := Tryz.isAgg201
 z51 := Tryz.sizeOf201
 v51 := Tryz.zeroValue201
 t53 := Tryz.underlying203
 a53 := Tryz.isAgg203
 z53 := Tryz.sizeOf203
 v53 := Tryz.zeroValue203
 t131 := Tryz.underlying157
 a131 := Tryz.isAgg157
 z131 := Tryz.sizeOf157
 v131 := Tryz.zeroValue157
 t182 := Tryz.underlying193
 a182 := Tryz.isAgg193
 z182 := Tryz.sizeOf193
 v182 := Tryz.zeroValue193
 t183 := Tryz.underlying194
 a183 := Tryz.isAgg194
 z183 := Tryz.sizeOf194
 v183 := Tryz.zeroValue194
 t218 := Tryz.underlying215
 a218 := Tryz.isAgg215
 z218 := Tryz.sizeOf215
 v218 := Tryz.zeroValue215
 t222 := Tryz.underlying126
 a222 := Tryz.isAgg126
 z222 := Tryz.sizeOf126
 v222 := Tryz.zeroValue126
 t228 := Tryz.underlying225
 a228 := Tryz.isAgg225
 z228 := Tryz.sizeOf225
 v228 := Tryz.zeroValue225
 t229 := Tryz.underlying87
 a229 := Tryz.isAgg87
 z229 := Tryz.sizeOf87
 v229 := Tryz.zeroValue87 }
end

section
open Go.Tr Go Go.Proofs.Tryz
set_option maxRecDepth 10000
def under (op i : Int) : Int := if op = 3 ∨ op = 2 ∧ i = 1 then 1 else 0
theorem qbb (op i : Int) : 0 ≤ under op i ∧ under op i ≤ 1 := by unfold under; split <;> omega
theorem under_spec (t : Tm) (a : OA) (c : Nat) (i : Int) : Pure Tryz.prog (fnS 109) [tmS t a c, iS i] [] (fun r out => r = iS (under t.op i) ∧ out = []) := by
 refine qb (N := 17) (m := 0) (dt := fun _ => none) [] ttOK Tryz.func109 rfl Tryz.call109 Tryz.ntmps109 rfl rfl rfl mixed (by kernel_rfl) ?_
 refine AtIf.mk (fun h => ?_) (fun h => ?_)
 ·refine AtRet.pure [] rfl (by simp) ⟨?_, rfl⟩
  unfold under; rw [if_pos (by simpa using h)]
 ·refine AtRet.pure [] rfl (by simp) ⟨?_, rfl⟩
  unfold under; rw [if_neg (by simpa using h)]
section
variable {σ : Type} (step : σ → Tm → Int → σ)
mutual
def walkF : Tm → σ → Int → σ
 | .mk o h n args, s, b => walkL o args 0 (step s (.mk o h n args) b) b
def walkL : Int → List Tm → Nat → σ → Int → σ
 | _, [], _, s, _ => s
 | o, t :: ts, i, s, b => walkL o ts (i + 1) (walkF t s (b + under o i)) b
 end
theorem walkF_eq (t : Tm) (s : σ) (b : Int) : walkF step t s b = walkL step t.op t.args 0 (step s t b) b := by cases t; rfl
end
mutual
def Tm.height : Tm → Nat
 | .mk _ _ _ args => qs args + 1
def qs : List Tm → Nat
 | [] => 0
 | t :: ts => max t.height (qs ts)
 end
theorem qaf (t : Tm) : t.height = qs t.args + 1 := by cases t; rfl
theorem qan {ts : List Tm} {t : Tm} (h : t ∈ ts) : t.height ≤ qs ts := by
 induction ts with
 | nil => cases h
 | cons x xs ih =>
  simp only [qs]
  rcases List.mem_cons.1 h with e | e
  ·subst e; omega
  ·have := ih e; omega
theorem each_spec3 {σ : Type} (F : SV) (hF0 : F.wf 3 = true) (B0 B1 B2 : σ → Blk) (I : σ → Prop) (step : σ → Tm → Int → σ)
  (hmut : ∀ s s', (B0 s).mut = (B0 s').mut ∧ (B1 s).mut = (B1 s').mut ∧ (B2 s).mut = (B2 s').mut) (hwf : ∀ s, (B0 s).wf 3 = true ∧ (B1 s).wf 3 = true ∧ (B2 s).wf 3 = true)
  (hren : ∀ s, (B0 s).ren (rix [0, 1, 2]) = B0 s ∧ (B1 s).ren (rix [0, 1, 2]) = B1 s ∧ (B2 s).ren (rix [0, 1, 2]) = B2 s) (hFren : F.ren (rix [0, 1, 2]) = F)
  (hF : ∀ s t b a c, I s → 0 ≤ b → b ≤ 1000000 → Meets Tryz.prog (.val F) [tmS t a c, iS b] ⟨[B0 s, B1 s, B2 s], [], [tmR t a c]⟩ (fun o S' => o = .ret (.tup []) ∧ I (step s t b) ∧ S' = ⟨[B0 (step s t b), B1 (step s t b), B2 (step s t b)], [], []⟩)) :
  ∀ (t : Tm) (s : σ) (b : Int) a c, I s → 0 ≤ b → b + t.height ≤ 1000000 → Meets Tryz.prog (fnS 120) [tmS t a c, iS b, F] ⟨[B0 s, B1 s, B2 s], [], [tmR t a c]⟩
   (fun o S' => o = .ret (.tup []) ∧ I (walkF step t s b) ∧ S' = ⟨[B0 (walkF step t s b), B1 (walkF step t s b), B2 (walkF step t s b)], [], []⟩) := by
 intro t
 induction t using Tm.ind with
 | h t ih =>
 intro s b a c hI hb1 hb2
 refine qv fun hok => ?_
 have hB : (Tm.encL t.args).length ≤ 1152921504606846976 := (hok _ (List.mem_cons_self ..)).1
 refine qb (N := 29) (m := 3) (dt := drawsOf [(5, .node [0, 1, 2, 3, 6] [(4, .node [5] [(7, .leaf [])])], [7], [])]) [] ttOK Tryz.func120 rfl Tryz.call120 Tryz.ntmps120 rfl (by simp [qo, SV.wf, hF0]) rfl mixed (by kernel_rfl) ?_
 have hw := hwf s
 have frameOK : ∀ (s : σ) (tail : List Blk) (p : Nat) (k : Blk), [B0 s, B1 s, B2 s][p]? = some k → ∃ i, [0, 1, 2][p]? = some i ∧ (B0 s :: B1 s :: B2 s :: tail)[i]? = some (k.ren (rix [0, 1, 2])) ∧ k.wf 3 = true := by
  intro s tail p k hp
  match p, hp with
  | 0, hp => simp at hp; subst hp; exact ⟨0, rfl, by rw [(hren s).1]; rfl, (hwf s).1⟩
  | 1, hp => simp at hp; subst hp; exact ⟨1, rfl, by rw [(hren s).2.1]; rfl, (hwf s).2.1⟩
  | 2, hp => simp at hp; subst hp; exact ⟨2, rfl, by rw [(hren s).2.2]; rfl, (hwf s).2.2⟩
 refine (hF s t b a c hI hb1 (by omega)).frame [0, 1, 2] (by simp [Cal.ren, hFren]) rfl (by decide) rfl ?_ (by simp) rfl hF0 ?_
 ·exact fun p k hp => frameOK s _ p k hp
 rintro o s' ⟨rfl, hI1, rfl⟩
 have hm := hmut s (step s t b)
 refine ⟨rfl, by simp [hm], [B0 (step s t b), B1 (step s t b), B2 (step s t b)], by simp [hren], ?_⟩
 have hlen := Tm.encL_length t.args
 have hh := qaf t
 refine AtLoop.mk ⟨Nat × σ, fun x => [(15, iS x.1), (14, iS (Tm.encL t.args).length), (13, .v (.slice a (Tm.encL t.args).length c)), (3, .loc 3 0), (1, iS b), (2, F)],
  fun x => ⟨[B0 x.2, B1 x.2, B2 x.2, .cells 47 [iS t.op, iS t.hd, iS t.n, .v (.slice a (Tm.encL t.args).length c)]], [], [tmR t a c]⟩,
  fun x => x.1 ≤ t.args.length ∧ I x.2 ∧ walkF step t s b = walkL step t.op (t.args.drop x.1) x.1 x.2 b,
  fun x => t.args.length - x.1, (0, step s t b), ⟨Nat.zero_le _, hI1, by simpa using walkF_eq step t s b⟩, ⟨rfl, rfl, rfl, rfl, rfl, rfl, trivial⟩, StLe.refl _, ?_, ?_⟩
 ·intro x _
  have hF4 : F.wf 4 = true := SV.wf_mono (by omega) F hF0
  exact ⟨by simp [envWf, SV.wf, hF4]; rfl, rfl⟩
 rintro ⟨i, s1⟩ ⟨hi, hI2, hinv⟩
 simp only at hi hI2 hinv ⊢
 refine AtIf.mk (fun h1 => ?_) (fun h1 => ?_)
 ·simp only [decide_eq_true_eq, hlen] at h1
  have hlt : i < t.args.length := by omega
  obtain ⟨t', ht'⟩ : ∃ t', t.args[i]? = some t' := ⟨_, List.getElem?_eq_getElem hlt⟩
  refine qd ttOK 0 rfl rfl rfl rfl (by omega) (by rw [Int.toNat_natCast]; exact Tm.encL_get ht') ?_
  intro a' c' _ hB'
  refine (under_spec t a c i).at (by simp) rfl rfl ?_
  rintro r out ⟨rfl, rfl⟩
  refine ⟨fun _ _ h => h, ?_⟩
  have hu := qbb t.op i
  have hht : t'.height ≤ qs t.args := qan (List.mem_of_getElem? ht')
  have hw2 : IntKind.i64.wrap (b + under t.op i) = b + under t.op i := wrap_i64 (by omega) (by omega)
  have hs := ih t' (List.mem_of_getElem? ht') s1 (b + under t.op i) a' c' hI2 (by omega) (by omega)
  refine hs.frame [0, 1, 2] rfl (by simp only [hw2]; show _ = [_, _, F.ren _]; rw [hFren]; rfl) (by decide) rfl ?_ ?_ ?_ rfl ?_
  ·exact fun p k hp => frameOK s1 _ p k hp
  ·intro p hp; simp at hp; subst hp; simp
  ·simp [qo, SV.wf, hF0]
  ·rintro o s' ⟨rfl, hI3, rfl⟩
   have hm := hmut s1 (walkF step t' s1 (b + under t.op i))
   refine ⟨rfl, by simp [hm], [B0 (walkF step t' s1 (b + under t.op i)), B1 (walkF step t' s1 (b + under t.op i)), B2 (walkF step t' s1 (b + under t.op i))], by simp [hren], ?_⟩
   have hw3 : IntKind.i64.wrap (i + 1) = ((i + 1 : Nat) : Int) := wrap_i64 (by omega) (by omega)
   refine ⟨(i + 1, walkF step t' s1 (b + under t.op i)), ⟨by omega, hI3, ?_⟩, by simp; omega, ⟨by rw [← hw3]; rfl, rfl, rfl, rfl, rfl, rfl, trivial⟩, StLe.to _ _ rfl (by simp) rfl ?_⟩
   ·rw [hinv]
    have hd : t.args.drop i = t' :: t.args.drop (i + 1) := by
     rw [List.drop_eq_getElem_cons hlt]
     congr 1
     rw [List.getElem?_eq_getElem hlt] at ht'
     simpa using ht'
    simp only [hd, walkL]
   ·have := hwf (walkF step t' s1 (b + under t.op i))
    simp only [wfB, List.length_cons, List.length_nil, Blk.wf_mono (show 3 ≤ 0 + 1 + 1 + 1 + 1 by omega) this.1, Blk.wf_mono (show 3 ≤ 0 + 1 + 1 + 1 + 1 by omega) this.2.1, Blk.wf_mono (show 3 ≤ 0 + 1 + 1 + 1 + 1 by omega) this.2.2]
    rfl
 ·refine qaj [B0 s1, B1 s1, B2 s1] rfl rfl rfl ?_ rfl ⟨rfl, ?_⟩
  ·have := hwf s1
   simp only [wfB, List.length_cons, List.length_nil, this.1, this.2.1, this.2.2]
  ·simp only [decide_eq_false_iff_not, hlen] at h1
   rw [List.drop_of_length_le (by omega)] at hinv
   simp only [walkL] at hinv
   rw [hinv]
   exact ⟨hI2, rfl⟩
end

section
open Go.Tr Go Go.Proofs.Tryz
set_option maxRecDepth 10000
theorem qn3 (t : Tm) : ∀ (depth k : Int) (a : OA) (c : Nat), 0 ≤ depth → depth ≤ 41 → 0 ≤ k → k ≤ 600 →
  Meets Tryz.prog (fnS 106) [tmS t a c, iS depth, .loc 0 0] ⟨[.cells 3 [iS k]], [], [tmR t a c]⟩
   (fun o S' => o = .ret (bS (properF t depth k).1) ∧ S' = ⟨[.cells 3 [iS (properF t depth k).2]], [], []⟩) := by
 induction t using Tm.ind with
 | h t ih =>
 intro depth k a c hd1 hd2 hk1 hk2
 refine qv fun hok => ?_
 have hB : (Tm.encL t.args).length ≤ 1152921504606846976 := (hok _ (List.mem_cons_self ..)).1
 have hlen := Tm.encL_length t.args
 refine qb (N := 95) (m := 1) (dt := fun _ => none) [6] ttOK Tryz.func106 rfl Tryz.call106 Tryz.ntmps106 rfl rfl rfl mixed (by kernel_rfl) ?_
 have hw : IntKind.i64.wrap (k + 1) = k + 1 := wrap_i64 (by omega) (by omega)
 have hF := qde t depth k
 refine AtIf.mk ?_ ?_
 ·intro h
  rw [hw] at h
  refine qaj [.cells 3 [iS (k + 1)]] (by simp only [hw]; rfl) rfl rfl rfl rfl ?_
  rw [hF, if_pos (by simpa using h)]
  exact ⟨rfl, rfl⟩
 ·intro h
  rw [hw] at h
  have hno : ¬ (600 < k + 1 ∨ 40 < depth) := by simpa using h
  rw [if_neg hno] at hF
  refine AtCut.mk ⟨Unit, fun _ => [(7, iS (Tm.encL t.args).length), (8, bS (okNode t.op t.hd t.n t.args.length)), (3, .loc 1 0), (1, iS depth), (2, .loc 0 0)],
   fun _ => ⟨[.cells 3 [iS (k + 1)], .cells 47 [iS t.op, iS t.hd, iS t.n, .v (.slice a (Tm.encL t.args).length c)]], [], [tmR t a c]⟩,
   fun _ => True, fun _ _ => ⟨rfl, rfl⟩, ?_, ?_⟩
  ·have fin : ∀ {b : Bool} {env : Env} {S : St}, b = okNode t.op t.hd t.n t.args.length → S = ⟨[.cells 3 [iS (IntKind.i64.wrap (k + 1))], .cells 47 [iS t.op, iS t.hd, iS t.n, .v (.slice a (Tm.encL t.args).length c)]], [], [tmR t a c]⟩ →
     envLe env [(7, iS (Tm.encL t.args).length), (8, bS b), (3, .loc 1 0), (1, iS depth), (2, .loc 0 0)] → 
     ∃ x : Unit, True ∧ envLe env [(7, iS (Tm.encL t.args).length), (8, bS (okNode t.op t.hd t.n t.args.length)), (3, .loc 1 0), (1, iS depth), (2, .loc 0 0)] ∧ StLe S ⟨[.cells 3 [iS (k + 1)], .cells 47 [iS t.op, iS t.hd, iS t.n, .v (.slice a (Tm.encL t.args).length c)]], [], [tmR t a c]⟩ := by
    rintro b env S rfl rfl he
    exact ⟨(), trivial, he, by rw [hw]; exact StLe.refl _⟩
   refine AtIf.mk (fun h1 => ?_) (fun h1 => AtIf.mk (fun h2 => ?_) (fun h2 => AtIf.mk (fun h3 => ?_) (fun h3 => AtIf.mk (fun h4 => ?_) (fun h4 => ?_))))
   ·refine fin ?_ rfl ⟨rfl, rfl, rfl, rfl, rfl, trivial⟩
    simp only [beq_iff_eq] at h1
    simp only [okNode, h1, hlen]
    rw [Bool.eq_iff_iff]; simp
   ·refine fin ?_ rfl ⟨rfl, rfl, rfl, rfl, rfl, trivial⟩
    simp only [beq_iff_eq] at h2
    simp only [okNode, h2, hlen]
    rw [Bool.eq_iff_iff]; simp; omega
   ·refine fin ?_ rfl ⟨rfl, rfl, rfl, rfl, rfl, trivial⟩
    simp only [beq_iff_eq] at h3
    simp only [okNode, h3, hlen]
    rw [Bool.eq_iff_iff]; simp; omega
   ·refine fin ?_ rfl ⟨rfl, rfl, rfl, rfl, rfl, trivial⟩
    simp only [beq_iff_eq] at h4
    simp only [okNode, h4]
    rw [Bool.eq_iff_iff]; simp
   ·simp only [beq_eq_false_iff_ne] at h1 h2 h3 h4
    refine qaj [.cells 3 [iS (k + 1)]] (by simp only [hw]; rfl) rfl rfl rfl rfl ?_
    have : okNode t.op t.hd t.n t.args.length = false := by simp [okNode, h1, h2, h3, h4]
    rw [hF, this]
    exact ⟨rfl, rfl⟩
  ·intro _ _
   refine AtLoop.mk ⟨Nat × Bool × Int, fun x => [(9, iS x.1), (7, iS (Tm.encL t.args).length), (8, bS x.2.1), (3, .loc 1 0), (1, iS depth), (2, .loc 0 0)],
    fun x => ⟨[.cells 3 [iS x.2.2], .cells 47 [iS t.op, iS t.hd, iS t.n, .v (.slice a (Tm.encL t.args).length c)]], [], [tmR t a c]⟩,
    fun x => x.1 ≤ t.args.length ∧ 0 ≤ x.2.2 ∧ (x.2.1 = true → x.2.2 ≤ 600) ∧ properF t depth k = if x.2.1 then properL (t.args.drop x.1) (depth + 1) x.2.2 else (false, x.2.2),
    fun x => t.args.length - x.1, (0, okNode t.op t.hd t.n t.args.length, k + 1), ?_, ⟨rfl, rfl, rfl, rfl, rfl, rfl, trivial⟩, StLe.refl _, fun x _ => ⟨rfl, rfl⟩, ?_⟩
   ·exact ⟨Nat.zero_le _, by simp; omega, fun _ => by simp; omega, by simpa using hF⟩
   ·rintro ⟨i, ok, kk⟩ ⟨hi, hk0, hk6, hinv⟩
    simp only at hi hk0 hk6 hinv ⊢
    refine AtIf.mk (fun h1 => ?_) (fun h1 => ?_)
    ·simp only [Bool.and_eq_true, decide_eq_true_eq, hlen] at h1
     obtain ⟨h1, rfl⟩ := h1
     have hlt : i < t.args.length := by omega
     obtain ⟨t', ht'⟩ : ∃ t', t.args[i]? = some t' := ⟨_, List.getElem?_eq_getElem hlt⟩
     refine qd ttOK 0 rfl rfl rfl rfl (by omega) (by rw [Int.toNat_natCast]; exact Tm.encL_get ht') ?_
     intro a' c' _ _
     have hw2 : IntKind.i64.wrap (depth + 1) = depth + 1 := wrap_i64 (by omega) (by omega)
     have hspec := ih t' (List.mem_of_getElem? ht') (depth + 1) kk a' c' (by omega) (by omega) hk0 (hk6 rfl)
     refine hspec.frame [0] rfl (by simp only [hw2]; rfl) (by simp) rfl ?_ ?_ rfl rfl ?_
     ·intro p q hp
      match p, hp with
      | 0, hp => simp at hp; subst hp; exact ⟨0, rfl, rfl, rfl⟩
     ·intro p hp; simp at hp; subst hp; exact List.mem_cons_of_mem _ (List.mem_cons_self ..)
     ·rintro o s' ⟨rfl, rfl⟩
      refine ⟨rfl, rfl, [.cells 3 [iS (properF t' (depth + 1) kk).2]], rfl, ?_⟩
      have hle := qcp t' (depth + 1) kk hk0 (hk6 rfl)
      have hw3 : IntKind.i64.wrap (i + 1) = ((i + 1 : Nat) : Int) := wrap_i64 (by omega) (by omega)
      refine ⟨(i + 1, (properF t' (depth + 1) kk).1, (properF t' (depth + 1) kk).2), ⟨by omega, by simp; omega, hle.2.2, ?_⟩, by simp; omega, ⟨by rw [← hw3]; rfl, rfl, rfl, rfl, rfl, rfl, trivial⟩, StLe.to _ _ rfl (by simp) rfl rfl⟩
      rw [hinv]
      have hd : t.args.drop i = t' :: t.args.drop (i + 1) := by
       rw [List.drop_eq_getElem_cons hlt]
       congr 1
       rw [List.getElem?_eq_getElem hlt] at ht'
       simpa using ht'
      simp only [if_true, hd, properL]
      cases properF t' (depth + 1) kk with
      | mk b k' => cases b <;> rfl
    ·refine qaj [.cells 3 [iS kk]] rfl rfl rfl rfl rfl ?_
     have : properF t depth k = (ok, kk) := by
      rw [hinv]
      cases ok with
      | false => rfl
      | true =>
       simp only [Bool.and_true, decide_eq_false_iff_not, hlen] at h1
       rw [List.drop_of_length_le (by omega)]
       rfl
     rw [this]
     exact ⟨rfl, rfl⟩
def isProper (t : Tm) : Bool := (properF t 1 0).1
theorem qgl (t : Tm) (a : OA) (c : Nat) : Pure Tryz.prog (fnS 59) [tmS t a c] [tmR t a c] (fun r out => r = iS (if isProper t then 0 else 2) ∧ out = []) := by
 refine qb (N := 7) (m := 0) (dt := fun _ => none) [] ttOK Tryz.func59 rfl Tryz.call59 Tryz.ntmps59 rfl rfl rfl mixed (by kernel_rfl) ?_
 have hs := qn3 t 1 0 a c (by omega) (by omega) (by omega) (by omega)
 refine hs.frame [1] rfl rfl (by decide) rfl ?_ (by simp) rfl rfl ?_
 ·intro p q hp
  match p, hp with
  | 0, hp => simp at hp; subst hp; exact ⟨1, rfl, rfl, rfl⟩
 rintro o s' ⟨rfl, rfl⟩
 refine ⟨rfl, rfl, [.cells 3 [iS (properF t 1 0).2]], rfl, ?_⟩
 refine AtIf.mk (fun h => ?_) (fun h => ?_)
 ·refine AtRet.pure [] rfl (by simp) ⟨?_, rfl⟩
  simp only [Bool.not_eq_true'] at h
  simp [isProper, h]
 ·refine AtRet.pure [] rfl (by simp) ⟨?_, rfl⟩
  simp only [Bool.not_eq_false'] at h
  simp [isProper, h]
end

section
open Go.Tr Go Go.Proofs.Tryz
set_option maxRecDepth 10000
theorem qfk : ∀ (n : Nat) (l : List Nat), l.Nodup → (∀ m ∈ l, m < n) → l.length ≤ n
 | 0, l, _, h => by
  cases l with
  | nil => simp
  | cons a l => have := h a (by simp); omega
 | n + 1, l, hn, h => by
  by_cases hm : n ∈ l
  ·have h1 := qfk n (l.erase n) (hn.erase n) (fun m hm' => by
    have := (hn.mem_erase_iff.1 hm')
    have := h m this.2
    omega)
   rw [List.length_erase_of_mem hm] at h1
   omega
  ·have h1 := qfk n l hn (fun m hm' => by
    have h2 := h m hm'
    have h3 : m ≠ n := fun e => hm (e ▸ hm')
    omega)
   omega
theorem int_under : Tryz.prog.underlying 3 = some (.int .i64) := Tryz.underlying3
def noteStep (f : Tm → Int → Int × Bool) (l : List (Int × Value)) (t : Tm) (b : Int) : List (Int × Value) :=
 if t.op = 4 ∧ (f t b).2 = true then putAt (f t b).1 (.bool true) l else l
def AsksOK (OF : SV) (f : Tm → Int → Int × Bool) : Prop :=
 ∀ t b a c, 0 ≤ b → b ≤ 1000000 → Pure Tryz.prog (.val OF) [tmS t a c, iS b] [tmR t a c] (fun r out => r = .tup [iS (f t b).1, bS (f t b).2] ∧ out = [])
theorem qli (OF : SV) (hOF : OF.wf 0 = true) (f : Tm → Int → Int × Bool) (hf : AsksOK OF f) (t : Tm) (a : OA) (c : Nat) (b : Int) (hb : 0 ≤ b) (hb1 : b ≤ 1000000) (l : List (Int × Value)) :
  Meets Tryz.prog (.val (.fn (.func 146) [] [.loc 0 0, .loc 2 0])) [tmS t a c, iS b] ⟨[.cells 155 [OF], .obj (mapO .i64 l), .cells 186 [.mp 1]], [], [tmR t a c]⟩
   (fun o S' => o = .ret (.tup []) ∧ S' = ⟨[.cells 155 [OF], .obj (mapO .i64 (noteStep f l t b)), .cells 186 [.mp 1]], [], []⟩) := by
 refine qb (N := 21) (m := 3) (dt := fun _ => none) [] ttOK Tryz.func146 rfl Tryz.call146 Tryz.ntmps146 rfl (by simp [qo, SV.wf]) rfl mixed (by kernel_rfl) ?_
 refine AtIf.mk (fun h => ?_) (fun h => ?_)
 ·simp only [beq_iff_eq] at h
  refine (hf t b a c hb hb1).at (by simp) rfl hOF ?_
  rintro r out ⟨rfl, rfl⟩
  refine AtIf.mk (fun h2 => ?_) (fun h2 => ?_)
  ·refine qm0 ttOK (.bool true) rfl int_under rfl rfl rfl (fun _ => rfl) ?_
   refine qaj [.cells 155 [OF], .obj (mapO .i64 (putAt (f t b).1 (.bool true) l)), .cells 186 [.mp 1]] rfl rfl rfl ?_ rfl ⟨rfl, ?_⟩
   ·simp [wfB, Blk.wf, qo, SV.wf, SV.wf_mono (Nat.zero_le _) OF hOF, mapO]; rfl
   ·rw [noteStep, if_pos ⟨h, h2⟩]
  ·refine qaj [.cells 155 [OF], .obj (mapO .i64 l), .cells 186 [.mp 1]] rfl rfl rfl ?_ rfl ⟨rfl, ?_⟩
   ·simp [wfB, Blk.wf, qo, SV.wf, SV.wf_mono (Nat.zero_le _) OF hOF, mapO]; rfl
   ·rw [noteStep, if_neg (fun hh => by rw [h2] at hh; cases hh.2)]
 ·simp only [beq_eq_false_iff_ne] at h
  refine qaj [.cells 155 [OF], .obj (mapO .i64 l), .cells 186 [.mp 1]] rfl rfl rfl ?_ rfl ⟨rfl, ?_⟩
  ·simp [wfB, Blk.wf, qo, SV.wf, SV.wf_mono (Nat.zero_le _) OF hOF, mapO]; rfl
  ·rw [noteStep, if_neg (fun hh => h hh.1)]
def freeOf (t : Tm) (b : Int) : Int × Bool := (IntKind.i64.wrap (t.n - b), t.hd == 1 && decide (b ≤ t.n))
theorem qky : AsksOK (.fn (.func 108) [] []) freeOf := by
 intro t b a c _ _
 refine qb (N := 19) (m := 0) (dt := drawsOf [(1, .leaf [0, 1, 2, 3, 4, 5, 6, 7, 8, 9, 10, 11, 12, 13, 14], [], [])]) [] ttOK Tryz.func108 rfl Tryz.call108 Tryz.ntmps108 rfl rfl rfl mixed (by kernel_rfl) ?_
 refine AtRet.pure [] rfl (by simp) ⟨rfl, rfl⟩
structure AsksKey (n0 : Nat) (Y : SV) {σ : Type} (m0 m1 : Blk) (B2 B3 : σ → Blk) (A : σ → List Acc) (kof : σ → List Int) (L : Nat) : Prop where
 wf : Y.wf n0 = true
 does : ∀ s k, (kof s).length < L → Meets Tryz.prog (.val Y) [iS k] ⟨[m0, m1, B2 s, B3 s], A s, []⟩ (fun o S' => o = .ret (bS true) ∧ ∃ s', kof s' = kof s ++ [k] ∧ S' = ⟨[m0, m1, B2 s', B3 s'], A s', []⟩)
theorem keys1_spec (l : List (Int × Value)) {σ : Type} (Y : SV) (B2 B3 : σ → Blk) (A : σ → List Acc) (kof : σ → List Int) (hY : AsksKey 4 Y (.obj (mapO .i64 l)) (.cells 186 [.mp 0]) B2 B3 A kof l.length)
  (hB : ∀ s s', (B2 s).mut = (B2 s').mut ∧ (B3 s).mut = (B3 s').mut) (hwf : ∀ s, (B2 s).wf 4 = true ∧ (B3 s).wf 4 = true) (s0 : σ) (h0 : kof s0 = []) :
  Meets Tryz.prog (.val (.fn (.func 178) [] [.loc 1 0])) [Y] ⟨[.obj (mapO .i64 l), .cells 186 [.mp 0], B2 s0, B3 s0], A s0, []⟩
   (fun o S' => o = .ret (.tup []) ∧ ∃ s, (kof s).Perm (l.map (·.1)) ∧ S' = ⟨[.obj (mapO .i64 l), .cells 186 [.mp 0], B2 s, B3 s], A s, []⟩) := by
 refine qb (N := 14) (m := 4) (dt := fun _ => none) [] ttOK Tryz.func178 rfl Tryz.call178 Tryz.ntmps178 rfl (by simp [qo, SV.wf, hY.wf]) rfl mixed (by kernel_rfl) ?_
 refine at_range ttOK rfl rfl rfl ?_
 have hlt : ∀ (seen : Array Nat), seen.toList.Nodup → (∀ m ∈ seen.toList, m < l.length) → seen.size ≤ l.length := fun seen h1 h2 => by
  simpa using qfk l.length seen.toList h1 h2
 refine AtLoop.mk ⟨σ × Array Nat, fun _ => [(5, .loc 4 0), (0, Y)], fun x => ⟨[.obj (mapO .i64 l), .cells 186 [.mp 0], B2 x.1, B3 x.1, .iter 0 l.length x.2 l.length], A x.1, []⟩,
  fun x => kof x.1 = x.2.toList.map (fun m => ((l[m]?).map (·.1)).getD 0) ∧ x.2.toList.Nodup ∧ ∀ m ∈ x.2.toList, m < l.length, fun x => l.length - x.2.size, (s0, #[]), ⟨by simp [h0], by simp, by simp⟩, ⟨rfl, rfl, trivial⟩, StLe.refl _, ?_, ?_⟩
 ·intro x _
  refine ⟨?_, rfl⟩
  simp [envWf, SV.wf, SV.wf_mono (show 4 ≤ 5 by omega) Y hY.wf]
  rfl
 rintro ⟨s, seen⟩ ⟨hk, hnd, hsm⟩
 simp only at hk hnd hsm ⊢
 refine at_next rfl rfl rfl ?_ ?_
 ·intro hall
  refine AtIf.mk (fun h => by cases h) (fun _ => ?_)
  refine qhp [.obj (mapO .i64 l), .cells 186 [.mp 0], B2 s, B3 s] rfl rfl rfl ?_ rfl ⟨rfl, s, ?_, rfl⟩
  ·have := hwf s
   simp only [wfB, List.length_cons, List.length_nil, this.1, this.2]
   rfl
  ·rw [hk]
   have hp : seen.toList.Perm (List.range l.length) := by
    refine (List.perm_ext_iff_of_nodup hnd List.nodup_range).2 (fun m => ?_)
    rw [List.mem_range]
    exact ⟨hsm m, fun hm => by simpa using hall m hm⟩
   refine (hp.map _).trans (List.Perm.of_eq ?_)
   apply List.ext_getElem?
   intro m
   simp only [List.getElem?_map]
   rcases Nat.lt_or_ge m l.length with h | h
   ·simp [h]
   ·simp [Nat.not_lt.2 h]
 ·intro m p hp hns
  refine AtIf.mk (fun _ => ?_) (fun h => by cases h)
  refine at_entry rfl rfl rfl hp ?_
  have hmlt : m < l.length := (List.getElem?_eq_some_iff.1 hp).1
  have hsz : (seen.push m).size ≤ l.length := hlt (seen.push m) (by simp [List.nodup_append, hnd]; intro a ha e; subst e; exact hns (by simpa using ha)) (by simp; rintro a (ha | ha); exact hsm a (by simpa using ha); omega)
  have hs := hY.does s p.1 (by rw [hk]; simp at hsz ⊢; omega)
  have hw := hwf s
  refine hs.frame0 [.iter 0 l.length (seen.push m) l.length] [] rfl (by simp) ?_ (by simp) rfl hY.wf ?_
  ·intro q hq
   simp only [List.mem_cons, List.not_mem_nil, or_false] at hq
   rcases hq with rfl | rfl | rfl | rfl
   ·rfl
   ·rfl
   ·exact hw.1
   ·exact hw.2
  rintro o s' ⟨rfl, s2, hk2, rfl⟩
  refine ⟨by simp [hB s s2], ?_⟩
  refine AtIf.mk (fun h => by cases h) (fun _ => ?_)
  refine ⟨(s2, seen.push m), ⟨?_, ?_, ?_⟩, ?_, ⟨rfl, rfl, trivial⟩, ?_⟩
  ·simp [hk2, hk, hp]
  ·simp [List.nodup_append, hnd]; intro a ha e; subst e; exact hns (by simpa using ha)
  ·simp; rintro a (ha | ha); exact hsm a (by simpa using ha); omega
  ·simp at hsz ⊢; omega
  ·simp only [List.append_nil]
   exact StLe.refl _
abbrev seqB2 (x : List Int × Value) : Blk := .cells 29 [.v x.2]
abbrev seqA (x : List Int × Value) : List Acc := [⟨x.2, 1, 3, x.1.map (D.int .i64)⟩]
theorem qjx (l : List (Int × Value)) (hL : l.length ≤ 1000000) :
  Meets Tryz.prog (fnS 191) [.v (.slice none 0 0), .fn (.func 178) [] [.loc 1 0]] ⟨[.obj (mapO .i64 l), .cells 186 [.mp 0]], [⟨.slice none 0 0, 1, 3, []⟩], []⟩
   (fun o S' => ∃ (ks : List Int) (v : Value), ks.Perm (l.map (·.1)) ∧ o = .ret (.v v) ∧ S' = ⟨[.obj (mapO .i64 l), .cells 186 [.mp 0]], [⟨v, 1, 3, ks.map (D.int .i64)⟩], []⟩) := by
 refine qb (N := 13) (m := 2) (dt := fun _ => none) [] ttOK Tryz.func191 rfl Tryz.call191 Tryz.ntmps191 rfl rfl rfl mixed (by kernel_rfl) ?_
 refine AtRange.mk ⟨[(2, .loc 2 0)], ⟨rfl, trivial⟩, rfl, rfl, ⟨_, _, _, rfl, Tryz.call178⟩, ?_⟩
 refine (keys1_spec l (.yld 3) seqB2 (fun _ => _) seqA (·.1) ⟨rfl, ?_⟩ (fun _ _ => ⟨rfl, rfl⟩) (fun _ => ⟨rfl, rfl⟩) ([], .slice none 0 0) rfl).mono ?_
 ·rintro ⟨ks, v⟩ k hlt
  simp only at hlt
  refine qcm (N := 13) (m := 4) (dt := fun _ => none) [] ttOK rfl rfl rfl rfl rfl rfl mixed (by kernel_rfl) (by kernel_rfl) ?_
  refine qep ttOK 8 [.int .i64 k] rfl (by kernel_rfl) ⟨⟨rfl, rfl, rfl, rfl⟩, trivial⟩ rfl (by decide) (by decide) ?_
  intro a
  refine qdd ttOK 8 0 0 rfl (by kernel_rfl) rfl rfl rfl rfl (by simp; omega) (by simp; omega) ?_
  intro a' c'
  refine qhp [.obj (mapO .i64 l), .cells 186 [.mp 0], seqB2 (ks ++ [k], .slice a' ((ks.map (D.int .i64)).length + 1) c'), _] rfl rfl rfl rfl rfl ⟨rfl, (ks ++ [k], .slice a' ((ks.map (D.int .i64)).length + 1) c'), rfl, ?_⟩
  simp [stOf]
 ·rintro o S' ⟨rfl, ⟨ks, v⟩, hp, rfl⟩
  refine ⟨⟨_, StLe.of (S' := ⟨[.obj (mapO .i64 l), .cells 186 [.mp 0]], seqA (ks, v), []⟩) rfl (List.Sublist.refl _) (by simp) rfl rfl, Nat.le_refl _, rfl, ks, v, hp, rfl, rfl⟩⟩
end

section
open Go.Tr Go Go.Proofs.Tryz
set_option maxRecDepth 10000
theorem qhu {J : Nat → Prop} {w : World} : ∀ (ks : List Int) (cs : List Value), RepE J w 1 (ks.map (D.int .i64)) cs ↔ cs.take ks.length = ks.map (Value.int .i64)
 | [], cs => by simp [RepE]
 | k :: ks, cs => by
  simp only [List.map_cons, RepE, qhu ks, RepC, List.length_cons]
  cases cs with
  | nil => simp
  | cons c cs => simp
def sorted (ks : List Int) : List Int := ks.mergeSort fun x y => decide (x ≤ y)
theorem qoq {l l' : List Int} (h : l.Perm l') : sorted l = sorted l' := by
 have tr : ∀ a b c : Int, decide (a ≤ b) = true → decide (b ≤ c) = true → decide (a ≤ c) = true := by simp; omega
 have tot : ∀ a b : Int, (decide (a ≤ b) || decide (b ≤ a)) = true := by simp; omega
 refine List.Perm.eq_of_pairwise (le := fun x y : Int => x ≤ y) ?_ ?_ ?_ (((List.mergeSort_perm l _).trans h).trans (List.mergeSort_perm l' _).symm)
 ·intro a b _ _ h1 h2; omega
 ·exact (List.pairwise_mergeSort tr tot l).imp (by simp)
 ·exact (List.pairwise_mergeSort tr tot l').imp (by simp)
theorem sort_some (ks : List Int) (b cap : Nat) (hlen : ks.length < 4611686018427387904) :
  Meets Tryz.prog (fnS 66) [.v (.slice (some ⟨b, 0, none⟩) ks.length cap)] ⟨[], [⟨.slice (some ⟨b, 0, none⟩) ks.length cap, 1, 3, ks.map (D.int .i64)⟩], []⟩
   (fun o S' => o = .ret (.tup []) ∧ S' = ⟨[], [⟨.slice (some ⟨b, 0, none⟩) ks.length cap, 1, 3, (sorted ks).map (D.int .i64)⟩], []⟩) := by
 intro J ℓ w hG hJ
 have hl : ℓ = [] := by have := hG.len; simpa using this
 subst hl
 have hacc := hG.accs _ (List.mem_singleton.2 rfl)
 rcases hacc with ⟨hv, _⟩ | ⟨g, cp, c, hv, hgb, hcs, hle, hre⟩
 ·cases hv
 simp only [List.length_map, Value.slice.injEq, Option.some.injEq, Addr.mk.injEq, and_true, true_and] at hv
 obtain ⟨rfl, rfl⟩ := hv
 simp only [List.length_map] at hle
 have ht := (qhu ks c.toList).1 hre
 refine ⟨.enter 66 #[.slice (some ⟨b, 0, none⟩) ks.length cap], ?_, ?_⟩
 ·simp only [Cal.sem, SV.den, qc, Deferred.ofValue, Sem.run_bind, Sem.run_pure, Result.andThen_ok, invoke]
  exact Tryz.call66 _ _
 ·have hc := Any.slices_Sort_int sortLays b 0 cap ks w (holds_of_blockI hgb ht) (qad hgb) hlen
  refine CallsIn.mono ((callsIn_wide (n := 0)).2 hc) ?_
  rintro e w' ⟨rfl, n, os, rfl⟩
  have hsl : (sorted ks).length = ks.length := by simp [sorted, List.length_mergeSort]
  have hgr := grownBy_sortedI (w := w) (g := b) (n := n) (os := os) (sorted ks).toArray
  have hhs := heap_sortedI (n := n) (os := os) (sorted ks).toArray hgb
  have hgood := hG.regrow (j := 0) (a' := ⟨.slice (some ⟨b, 0, none⟩) ks.length cap, 1, 3, (sorted ks).map (D.int .i64)⟩) (w' := Go.Sort.grow (Go.Sort.putRow (Value.int .i64) (Go.Sort.ahead w n) b 0 (sorted ks).toArray) os) hJ rfl hgr.size
   (fun x hx hm => hgr.block x hx (fun e => hm (by simp only [Option.some.injEq] at e; simp [accBlk, e]))) (by simp [accBlk]) (fun x hx => ?_) (fun J' hj => ?_)
  ·refine ⟨[], .ret (.tup []), _, rfl, rfl, List.prefix_refl _, ⟨hgr.os, hgr.output, hgr.size, fun x hx hm => hgr.block x hx (fun e => hm ?_)⟩, hgood.1, hgood.2, rfl, rfl⟩
   simp only [Option.some.injEq] at e
   simp [mutS, mutL, accBlk, e]
  ·simp [accBlk] at hx
   subst hx
   exact ⟨.inl (by simp [accBlk]), qad hhs⟩
  ·refine .inr ⟨b, cap, _, by simp [hsl], hhs, by simp [Go.Sort.putCells, hcs], by simp [hsl]; exact hle, ?_⟩
   rw [qhu, hsl, ← hsl]
   exact take_putCellsI c (sorted ks) (by rw [hsl, hcs]; simp; exact hle.1)
abbrev nilS : SV := .v (.slice none 0 0)
theorem insertion_none : Pure Tryz.prog (fnS 150) [nilS, iS 0, iS 0] [] (fun r out => r = .tup [] ∧ out = []) := by
 refine qb (N := 49) (m := 0) (dt := drawsOf [(4, .node [0, 1, 2, 3, 4, 5, 6, 7, 8, 9, 10, 11, 12] [(13, .leaf [14])], [13], []), (6, .node [0, 1, 2, 3, 4, 5, 6, 7, 8, 9, 10, 11, 12, 13, 14] [(15, .node [16] [(17, .leaf [])])], [17], [])]) [] ttOK Tryz.func150 rfl Tryz.call150 Tryz.ntmps150 rfl rfl rfl mixed (by kernel_rfl) ?_
 refine AtLoop.mk ⟨Unit, fun _ => [(6, iS 1), (2, iS 0)], fun _ => ⟨[], [], []⟩, fun _ => True, fun _ => 0, (), trivial, ⟨rfl, rfl, trivial⟩, StLe.refl _, fun _ _ => ⟨rfl, rfl⟩, ?_⟩
 intro _ _
 refine AtIf.mk (fun h => by cases h) (fun _ => ?_)
 exact AtRet.pure [] rfl (by simp) ⟨rfl, rfl⟩
theorem pdq_none (lim : Int) : Pure Tryz.prog (fnS 113) [nilS, iS 0, iS 0, iS lim] [] (fun r out => r = .tup [] ∧ out = []) := by
 refine qb (N := 134) (m := 0) (dt := drawsOf [(17, .node [0, 1, 2, 3, 4, 5, 6, 7, 8, 9, 10, 11] [(12, .leaf [13, 14])], [12], [])]) [] ttOK Tryz.func113 rfl Tryz.call113 Tryz.ntmps113 rfl rfl rfl mixed (by kernel_rfl) ?_
 refine AtLoop.mk ⟨Unit, fun _ => [(0, nilS), (1, iS 0), (2, iS 0)], fun _ => ⟨[], [], []⟩, fun _ => True, fun _ => 0, (), trivial, ⟨rfl, rfl, rfl, trivial⟩, StLe.refl _, fun _ _ => ⟨rfl, rfl⟩, ?_⟩
 intro _ _
 refine AtIf.mk (fun _ => ?_) (fun h => by cases h)
 refine insertion_none.at (by simp) rfl rfl ?_
 rintro r out ⟨rfl, rfl⟩
 exact AtRet.pure [] rfl (by simp) ⟨rfl, rfl⟩
theorem len64_zero : Pure Tryz.prog (fnS 160) [.v (.int .u64 0)] [] (fun r out => r = iS 0 ∧ out = []) := by
 refine qb (N := 25) (m := 0) (dt := fun _ => none) [] ttOK Tryz.func160 rfl Tryz.call160 Tryz.ntmps160 rfl rfl rfl mixed (by kernel_rfl) ?_
 refine AtIf.mk (fun h => by cases h) (fun _ => ?_)
 refine AtIf.mk (fun h => by cases h) (fun _ => ?_)
 refine AtIf.mk (fun h => by cases h) (fun _ => ?_)
 refine AtSem.val (.v (.int .u8 0)) rfl (fun _ _ => by kernel_rfl) ?_
 refine AtPure.val (.v (.int .u8 0)) rfl (fun _ _ => by kernel_rfl) ?_
 refine AtSem.val (.v (.int .i64 0)) rfl (fun _ _ => by kernel_rfl) ?_
 exact AtRet.pure [] rfl (by simp) ⟨rfl, rfl⟩
theorem len_zero : Pure Tryz.prog (fnS 114) [.v (.int .u64 0)] [] (fun r out => r = iS 0 ∧ out = []) := by
 refine qb (N := 8) (m := 0) (dt := fun _ => none) [] ttOK Tryz.func114 rfl Tryz.call114 Tryz.ntmps114 rfl rfl rfl mixed (by kernel_rfl) ?_
 refine AtIf.mk (fun h => by cases h) (fun _ => ?_)
 refine len64_zero.at (by simp) rfl rfl ?_
 rintro r out ⟨rfl, rfl⟩
 exact AtRet.pure [] rfl (by simp) ⟨rfl, rfl⟩
theorem sort_none : Pure Tryz.prog (fnS 66) [nilS] [] (fun r out => r = .tup [] ∧ out = []) := by
 refine qb (N := 11) (m := 0) (dt := fun _ => none) [] ttOK Tryz.func66 rfl Tryz.call66 Tryz.ntmps66 rfl rfl rfl mixed (by kernel_rfl) ?_
 refine AtSem.val (.v (.int .u64 0)) rfl (fun _ _ => by kernel_rfl) ?_
 refine len_zero.at (by simp) rfl rfl ?_
 rintro r out ⟨rfl, rfl⟩
 refine (pdq_none 0).at (by simp) rfl rfl ?_
 rintro r out ⟨rfl, rfl⟩
 exact AtRet.pure [] rfl (by simp) ⟨rfl, rfl⟩
theorem acc_cases {P : Program} {cl : Cal} {args : List SV} {v : Value} {k : Nat} {T : TypeId} {ds : List D} {R : Out → St → Prop} (h1 : v = .slice none 0 0 → ds = [] → Meets P cl args ⟨[], [⟨v, k, T, ds⟩], []⟩ R) (h2 : ∀ b cap, v = .slice (some ⟨b, 0, none⟩) ds.length cap → Meets P cl args ⟨[], [⟨v, k, T, ds⟩], []⟩ R) : Meets P cl args ⟨[], [⟨v, k, T, ds⟩], []⟩ R := by
 intro J ℓ w hG hJ
 rcases hG.accs _ (List.mem_singleton.2 rfl) with ⟨hv, hd⟩ | ⟨b, cap, c, hv, _⟩
 ·exact h1 hv hd J ℓ w hG hJ
 ·exact h2 b cap hv J ℓ w hG hJ
theorem sort_spec (ks : List Int) (v : Value) (hlen : ks.length < 4611686018427387904) :
  Meets Tryz.prog (fnS 66) [.v v] ⟨[], [⟨v, 1, 3, ks.map (D.int .i64)⟩], []⟩ (fun o S' => o = .ret (.tup []) ∧ S' = ⟨[], [⟨v, 1, 3, (sorted ks).map (D.int .i64)⟩], []⟩) := by
 refine acc_cases (fun hv hd => ?_) (fun b cap hv => ?_)
 ·have hk : ks = [] := by simpa using hd
  subst hv hk
  refine sort_none.at (by simp) rfl rfl ?_
  rintro r out ⟨rfl, rfl⟩
  exact ⟨rfl, by simp [sorted]⟩
 ·rw [List.length_map] at hv
  subst hv
  exact sort_some ks b cap hlen
theorem qnn (l : List (Int × Value)) (hL : l.length ≤ 1000000) :
  Meets Tryz.prog (fnS 177) [.fn (.func 178) [] [.loc 1 0]] ⟨[.obj (mapO .i64 l), .cells 186 [.mp 0]], [], []⟩
   (fun o S' => ∃ (ks : List Int) (v : Value), ks.Perm (l.map (·.1)) ∧ o = .ret (.v v) ∧ S' = ⟨[.obj (mapO .i64 l), .cells 186 [.mp 0]], [⟨v, 1, 3, ks.map (D.int .i64)⟩], []⟩) := by
 refine qb (N := 5) (m := 2) (dt := fun _ => none) [] ttOK Tryz.func177 rfl Tryz.call177 Tryz.ntmps177 rfl rfl rfl mixed (by kernel_rfl) ?_
 refine (Meets.nilAcc 1 3 (qjx l hL)).frame0 [] [] rfl (by simp) ?_ (by simp) rfl rfl ?_
 ·intro q hq
  simp only [List.mem_cons, List.not_mem_nil, or_false] at hq
  rcases hq with rfl | rfl <;> rfl
 rintro o s' ⟨ks, v, hp, rfl, rfl⟩
 refine ⟨rfl, ?_⟩
 exact qhp [.obj (mapO .i64 l), .cells 186 [.mp 0]] rfl rfl rfl rfl rfl ⟨ks, v, hp, rfl, rfl⟩
theorem qn4 (l : List (Int × Value)) (hL : l.length ≤ 1000000) :
  Meets Tryz.prog (fnS 147) [.fn (.func 178) [] [.loc 1 0]] ⟨[.obj (mapO .i64 l), .cells 186 [.mp 0]], [], []⟩
   (fun o S' => ∃ (v : Value), o = .ret (.v v) ∧ S' = ⟨[.obj (mapO .i64 l), .cells 186 [.mp 0]], [⟨v, 1, 3, (sorted (l.map (·.1))).map (D.int .i64)⟩], []⟩) := by
 refine qb (N := 9) (m := 2) (dt := fun _ => none) [] ttOK Tryz.func147 rfl Tryz.call147 Tryz.ntmps147 rfl rfl rfl mixed (by kernel_rfl) ?_
 refine (qnn l hL).frame0 [] [] rfl (by simp) ?_ (by simp) rfl rfl ?_
 ·intro q hq
  simp only [List.mem_cons, List.not_mem_nil, or_false] at hq
  rcases hq with rfl | rfl <;> rfl
 rintro o s' ⟨ks, v, hp, rfl, rfl⟩
 refine ⟨rfl, ?_⟩
 have hks : ks.length ≤ 1000000 := by rw [hp.length_eq, List.length_map]; exact hL
 refine (sort_spec ks v (by omega)).frame0 [.obj (mapO .i64 l), .cells 186 [.mp 0]] [] rfl (by simp) (by simp) (by simp) rfl rfl ?_
 rintro o s' ⟨rfl, rfl⟩
 refine ⟨rfl, ?_⟩
 refine qhp [.obj (mapO .i64 l), .cells 186 [.mp 0]] rfl rfl rfl rfl rfl ⟨v, rfl, ?_⟩
 have hs : sorted ks = sorted (l.map (·.1)) := qoq hp
 rw [hs]; rfl
end

section
open Go.Tr Go Go.Proofs.Tryz
set_option maxRecDepth 10000
theorem keys_spec (l : List (Int × Value)) : Meets Tryz.prog (fnS 148) [.mp 0] ⟨[.obj (mapO .i64 l)], [], []⟩
  (fun o S' => o = .ret (.fn (.func 178) [] [.loc 1 0]) ∧ S' = ⟨[.obj (mapO .i64 l), .cells 186 [.mp 0]], [], []⟩) := by
 refine qb (N := 4) (m := 1) (dt := fun _ => none) [] ttOK Tryz.func148 rfl Tryz.call148 Tryz.ntmps148 rfl rfl rfl mixed (by kernel_rfl) ?_
 exact AtRet.mk ⟨⟨[.obj (mapO .i64 l), .cells 186 [.mp 0]], [], []⟩, StLe.to _ _ rfl (by simp) rfl rfl, Nat.le_of_ble_eq_true rfl, rfl, rfl, rfl⟩
def numsOf (f : Tm → Int → Int × Bool) (t : Tm) : List Int := sorted ((walkF (noteStep f) t [] 0).map (·.1))
theorem qg9 (n : Int) (v : Value) : ∀ (l : List (Int × Value)), (putAt n v l).length ≤ l.length + 1
 | [] => by simp [putAt]
 | (k, u) :: r => by
  simp only [putAt]
  split
  ·simp
  ·simp; exact qg9 n v r
mutual
def Tm.count : Tm → Nat
 | .mk _ _ _ args => qn args + 1
def qn : List Tm → Nat
 | [] => 0
 | t :: ts => t.count + qn ts
 end
theorem qiy (f : Tm → Int → Int × Bool) (l : List (Int × Value)) (t : Tm) (b : Int) : (noteStep f l t b).length ≤ l.length + 1 := by
 unfold noteStep; split
 ·exact qg9 _ _ _
 ·omega
mutual
theorem qee (f : Tm → Int → Int × Bool) : ∀ (t : Tm) (l : List (Int × Value)) (b : Int), (walkF (noteStep f) t l b).length ≤ l.length + t.count
 | .mk o h n args, l, b => by
  simp only [walkF, Tm.count]
  have h1 := qha f o args 0 (noteStep f l (.mk o h n args) b) b
  have h2 := qiy f l (.mk o h n args) b
  omega
theorem qha (f : Tm → Int → Int × Bool) : ∀ (o : Int) (ts : List Tm) (i : Nat) (l : List (Int × Value)) (b : Int), (walkL (noteStep f) o ts i l b).length ≤ l.length + qn ts
 | o, [], i, l, b => by simp [walkL, qn]
 | o, t :: ts, i, l, b => by
  simp only [walkL, qn]
  have h1 := qee f t l (b + under o i)
  have h2 := qha f o ts (i + 1) (walkF (noteStep f) t l (b + under o i)) b
  omega
 end
mutual
theorem qdx : ∀ (t : Tm) (d k : Int), (properF t d k).1 = true → (properF t d k).2 = k + t.count ∧ d + t.height ≤ 41
 | .mk o h n args, d, k, hp => by
  rw [qde] at hp ⊢
  split at hp
  ·cases hp
  ·split at hp
   ·rename_i h1 h2
    have h3 := qge args (d + 1) (k + 1) hp
    rw [if_neg h1, if_pos h2]
    simp only [Tm.args, Tm.count, Tm.height] at h3 ⊢
    refine ⟨by omega, ?_⟩
    have := h3.2
    rcases this with h4 | h4
    ·omega
    ·subst h4; simp only [qs]; omega
   ·cases hp
theorem qge : ∀ (ts : List Tm) (d k : Int), (properL ts d k).1 = true → (properL ts d k).2 = k + qn ts ∧ (d + qs ts ≤ 41 ∨ ts = [])
 | [], d, k, _ => by simp [properL, qn]
 | t :: ts, d, k, hp => by
  simp only [properL] at hp ⊢
  cases hq : properF t d k with
  | mk b k' =>
   rw [hq] at hp
   cases b with
   | false => cases hp
   | true =>
    simp only at hp ⊢
    have h1 := qdx t d k (by rw [hq])
    rw [hq] at h1
    have h2 := qge ts d k' hp
    simp only [qn, qs] at h1 h2 ⊢
    refine ⟨by omega, .inl ?_⟩
    rcases h2.2 with h3 | h3
    ·omega
    ·subst h3; simp only [qs]; omega
 end
theorem qj8 {t : Tm} (h : isProper t = true) : t.count ≤ 600 ∧ t.height ≤ 40 := by
 have h1 := qdx t 1 0 h
 have h2 := qcp t 1 0 (by omega) (by omega)
 have h3 := h2.2.2 h
 omega
abbrev intsD (l : List Int) : D := .sl 1 (l.map (D.int .i64))
abbrev fS (g : Nat) : SV := .fn (.func g) [] []
theorem qhe (g : Nat) (f : Tm → Int → Int × Bool) (hf : AsksOK (fS g) f) (t : Tm) (a : OA) (c : Nat) :
  Pure Tryz.prog (fnS 107) [tmS t a c, fS g] [tmR t a c] (fun r out => (isProper t = false ∧ r = .tup [nilS, iS 2] ∧ out = []) ∨
   (isProper t = true ∧ ∃ v, r = .tup [.v v, iS 0] ∧ out = [(v, intsD (numsOf f t))])) := by
 refine qb (N := 20) (m := 0) (dt := fun _ => none) [] ttOK Tryz.func107 rfl Tryz.call107 Tryz.ntmps107 rfl rfl rfl mixed (by kernel_rfl) ?_
 refine (qgl t a c).at (by simp) rfl rfl ?_
 rintro r out ⟨rfl, rfl⟩
 refine AtIf.mk (fun h => ?_) (fun h => ?_)
 ·cases hp : isProper t with
  | true => rw [hp] at h; cases h
  | false => exact AtRet.pure [] rfl (by simp) (.inl ⟨rfl, by simp, rfl⟩)
 cases hp : isProper t with
 | false => rw [hp] at h; cases h
 | true =>
 obtain ⟨hc1, hc2⟩ := qj8 hp
 refine qgv .i64 ?_
 have hv := each_spec3 (.fn (.func 146) [] [.loc 0 0, .loc 2 0]) rfl (fun _ : List (Int × Value) => .cells 155 [fS g]) (fun l => .obj (mapO .i64 l)) (fun _ => .cells 186 [.mp 1]) (fun _ => True) (noteStep f)
  (fun _ _ => ⟨rfl, rfl, rfl⟩) (fun _ => ⟨rfl, rfl, rfl⟩) (fun _ => ⟨rfl, rfl, rfl⟩) rfl
  (fun l t b a c _ hb hb1 => (qli (fS g) rfl f hf t a c b hb hb1 l).mono (by rintro o S' ⟨rfl, rfl⟩; exact ⟨rfl, trivial, rfl⟩)) t [] 0 a c trivial (by omega) (by omega)
 refine hv.frame [1, 2, 3] rfl rfl (by decide) rfl ?_ (by simp) rfl rfl ?_
 ·intro p q hp
  match p, hp with
  | 0, hp => simp at hp; subst hp; exact ⟨1, rfl, rfl, rfl⟩
  | 1, hp => simp at hp; subst hp; exact ⟨2, rfl, rfl, rfl⟩
  | 2, hp => simp at hp; subst hp; exact ⟨3, rfl, rfl, rfl⟩
 rintro o s' ⟨rfl, _, rfl⟩
 have hl := qee f t [] 0
 generalize hl' : walkF (noteStep f) t [] 0 = l at hl ⊢
 refine ⟨rfl, rfl, [.cells 155 [fS g], .obj (mapO .i64 l), .cells 186 [.mp 2]], rfl, ?_⟩
 refine (keys_spec l).frameG [2] (rest := []) rfl rfl (List.Perm.refl _) (by decide) rfl ?_ (by simp) rfl rfl ?_
 ·intro p q hp
  match p, hp with
  | 0, hp => simp at hp; subst hp; exact ⟨2, rfl, rfl, rfl⟩
 rintro o s' ⟨rfl, rfl⟩ _ _
 refine ⟨[.obj (mapO .i64 l)], [.cells 186 [.mp 0]], rfl, rfl, ?_⟩
 refine (qn4 l (by simp at hl; omega)).frameG [2, 4] (rest := []) rfl rfl (List.Perm.refl _) (by decide) rfl ?_ (by simp) rfl rfl ?_
 ·intro p q hp
  match p, hp with
  | 0, hp => simp at hp; subst hp; exact ⟨2, rfl, rfl, rfl⟩
  | 1, hp => simp at hp; subst hp; exact ⟨4, rfl, rfl, rfl⟩
 rintro o s' ⟨v, rfl, rfl⟩ _ _
 refine ⟨_, [], (List.append_nil _).symm, rfl, ?_⟩
 refine qfl [(v, intsD (numsOf f t))] rfl (fun p hp => .inr ?_) (.inr ⟨rfl, v, rfl, rfl⟩)
 simp only [List.mem_singleton] at hp
 subst hp
 refine ⟨_, List.mem_append.2 (.inl (List.mem_singleton.2 rfl)), ?_⟩
 simp only [numsOf, hl']
theorem free_spec (t : Tm) (a : OA) (c : Nat) :
  Pure Tryz.prog (fnS 60) [tmS t a c] [tmR t a c] (fun r out => (isProper t = false ∧ r = .tup [nilS, iS 2] ∧ out = []) ∨
   (isProper t = true ∧ ∃ v, r = .tup [.v v, iS 0] ∧ out = [(v, intsD (numsOf freeOf t))])) := by
 refine qb (N := 8) (m := 0) (dt := fun _ => none) [] ttOK Tryz.func60 rfl Tryz.call60 Tryz.ntmps60 rfl rfl rfl mixed (by kernel_rfl) ?_
 refine (qhe 108 freeOf qky t a c).at (by simp) rfl rfl ?_
 rintro r out (⟨hp, rfl, rfl⟩ | ⟨hp, v, rfl, rfl⟩)
 ·exact AtRet.pure [] rfl (by simp) (.inl ⟨hp, rfl, rfl⟩)
 ·exact AtRet.pure [(v, intsD (numsOf freeOf t))] rfl (by simp) (.inr ⟨hp, v, rfl, rfl⟩)
end

section
open Go.Tr Go Go.Proofs.Tryz
set_option maxRecDepth 10000
def all2 (p : Tm → Tm → Bool) : List Tm → List Tm → Bool
 | a :: us, b :: vs => p a b && all2 p us vs
 | _, _ => true
mutual
def sameF : Tm → Tm → Bool
 | .mk o h n us, b => ((o == b.op && h == b.hd) && n == b.n) && (us.length == b.args.length && sameL us b.args)
def sameL : List Tm → List Tm → Bool
 | u :: us, v :: vs => sameF u v && sameL us vs
 | _, _ => true
 end
theorem sameF_eq (a b : Tm) : sameF a b = (((a.op == b.op && a.hd == b.hd) && a.n == b.n) && (a.args.length == b.args.length && sameL a.args b.args)) := by cases a; rfl
end

section
open Go.Tr Go Go.Proofs.Tryz
set_option maxRecDepth 10000
def lookI : List (Int × Int) → Int → Option Int
 | [], _ => none
 | (k, v) :: r, n => if n = k then some v else lookI r n
def putI (n v : Int) : List (Int × Int) → List (Int × Int)
 | [] => [(n, v)]
 | (k, u) :: r => if n = k then (k, v) :: r else (k, u) :: putI n v r
end

section
open Go.Tr Go Go.Proofs.Tryz
set_option maxRecDepth 10000
end

section
open Go.Tr Go Go.Proofs.Tryz
set_option maxRecDepth 10000
section
variable {σ : Type} (vis : σ → Tm → Int → Bool × σ) (fx : Int)
end
structure Visits {σ : Type} (vis : σ → Tm → Int → Bool × σ) (Y : SV) (B0 B1 B2 B3 : σ → Blk) (xr : Value × D) (I : σ → Prop) : Prop where
 wf0 : Y.wf 4 = true
 wf : ∀ s, (B0 s).wf 4 = true ∧ (B1 s).wf 4 = true ∧ (B2 s).wf 4 = true ∧ (B3 s).wf 4 = true
 mt : ∀ s s', (B0 s).mut = (B0 s').mut ∧ (B1 s).mut = (B1 s').mut ∧ (B2 s).mut = (B2 s').mut ∧ (B3 s).mut = (B3 s').mut
 does : ∀ s t k a c, I s → Meets Tryz.prog (.val Y) [tmS t a c, iS k] ⟨[B0 s, B1 s, B2 s, B3 s], [], [tmR t a c, xr]⟩ (fun o S' => o = .ret (bS (vis s t k).1) ∧ ((vis s t k).1 = true → I (vis s t k).2) ∧ S' = ⟨[B0 (vis s t k).2, B1 (vis s t k).2, B2 (vis s t k).2, B3 (vis s t k).2], [], []⟩)
end

section
open Go.Tr Go Go.Proofs.Tryz
set_option maxRecDepth 10000
noncomputable def rfOf : Code → Option (Code × Code)
 | .rangeFunc _ _ a b => some (a, b)
 | .seq a b => match rfOf a with
  | some r => some r
  | none => rfOf b
 | .cond _ t e => match rfOf t with
  | some r => some r
  | none => rfOf e
 | .block _ b => rfOf b
 | .loop b => rfOf b
 | .scope b => rfOf b
 | _ => none
noncomputable def rfAs (f : Func) : Code := match f.body with
 | none => .skip
 | some c => match rfOf c with
  | some (a, _) => a
  | none => .skip
noncomputable def rfBody (f : Func) : Code := match f.body with
 | none => .skip
 | some c => match rfOf c with
  | some (_, b) => b
  | none => .skip
end

section
open Go.Tr Go Go.Proofs.Tryz
set_option maxRecDepth 10000
mutual
def okAll : Tm → Bool
 | .mk o h n us => okNode o h n us.length && okAllL us
def okAllL : List Tm → Bool
 | [] => true
 | u :: us => okAll u && okAllL us
 end
theorem qk1 : ∀ {us : List Tm} {u : Tm}, okAllL us = true → u ∈ us → okAll u = true
 | [], u, _, h => by simp at h
 | v :: us, u, h, hm => by
  simp only [okAllL, Bool.and_eq_true] at h
  rcases List.mem_cons.1 hm with e | e
  ·subst e; exact h.1
  ·exact qk1 h.2 e
theorem okAll_arg {t u : Tm} (h : okAll t = true) (hu : u ∈ t.args) : okAll u = true := by
 cases t; simp only [okAll, Bool.and_eq_true] at h; exact qk1 h.2 hu
mutual
theorem qx : ∀ t : Tm, 1 ≤ t.count
 | .mk _ _ _ us => by simp only [Tm.count]; omega
theorem qt : ∀ t : Tm, 1 ≤ t.height
 | .mk _ _ _ us => by simp only [Tm.height]; omega
 end
mutual
theorem qie : ∀ (t : Tm) (d k : Int), (properF t d k).1 = true ↔ okAll t = true ∧ k + t.count ≤ 600 ∧ d + t.height ≤ 41
 | .mk o h n us, d, k => by
  have hl := qim us (d + 1) (k + 1)
  simp only [properF, Tm.count, Tm.height, okAll, Bool.and_eq_true]
  by_cases h1 : 600 < k + 1 ∨ 40 < d
  ·rw [if_pos h1]
   simp only [Bool.false_eq_true, false_iff]
   omega
  ·rw [if_neg h1]
   by_cases h2 : okNode o h n us.length = true
   ·rw [if_pos h2, hl]
    simp only [h2, true_and]
    constructor
    ·rintro ⟨h3, h4, h5⟩
     refine ⟨h3, ?_, ?_⟩
     ·rcases h4 with h4 | rfl
      ·omega
      ·simp only [qn]; omega
     rcases h5 with rfl | h5
     ·simp only [qs]; omega
     ·omega
    ·rintro ⟨h3, h4, h5⟩
     exact ⟨h3, .inl (by omega), .inr (by omega)⟩
   ·rw [if_neg h2]
    simp [h2]
theorem qim : ∀ (us : List Tm) (d k : Int), (properL us d k).1 = true ↔ okAllL us = true ∧ (k + qn us ≤ 600 ∨ us = []) ∧ (us = [] ∨ d + qs us ≤ 41)
 | [], d, k => by simp [properL, okAllL]
 | u :: us, d, k => by
  have h1 := qie u d k
  have hc := fun h => qdx u d k h
  have hp := qx u
  have hq := qt u
  simp only [properL, okAllL, qn, qs, Bool.and_eq_true]
  cases hu : properF u d k with
  | mk b k' =>
   rw [hu] at h1 hc
   cases b with
   | false =>
    simp only [Bool.false_eq_true, false_iff] at h1 ⊢
    rintro ⟨⟨h2, h3⟩, h4, h5⟩
    simp at h4 h5
    exact h1 ⟨h2, by omega, by omega⟩
   | true =>
    have h1 := h1.1 rfl
    have hk := (hc rfl).1
    simp only at hk
    subst hk
    simp only
    rw [qim us d (k + u.count)]
    simp only [h1.1, true_and, reduceCtorEq, or_false, false_or]
    constructor
    ·rintro ⟨h2, h3, h4⟩
     refine ⟨h2, ?_, ?_⟩
     ·rcases h3 with h3 | rfl
      ·omega
      ·simp only [qn]; omega
     ·rcases h4 with rfl | h4
      ·simp only [qs]; omega
      ·omega
    ·rintro ⟨h2, h3, h4⟩
     exact ⟨h2, .inl (by omega), .inr (by omega)⟩
 end
theorem qc5 (t : Tm) : isProper t = true ↔ okAll t = true ∧ t.count ≤ 600 ∧ t.height ≤ 40 := by
 rw [isProper, qie]
 constructor
 ·rintro ⟨h1, h2, h3⟩; exact ⟨h1, by omega, by omega⟩
 ·rintro ⟨h1, h2, h3⟩; exact ⟨h1, by omega, by omega⟩
end
end Go.Proofs.YtogicnodmgdnbaaGreat
