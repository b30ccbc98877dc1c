/- Merged texts: FwA FwB FwC FwD FwE FwF. Conditions stand in each rule. -/
import Derived.OrdersIn
import Derived.RangeFuncNested
import Derived.DefersIn
import Derived.Laws.Cells
import Derived.Laws.World
import Derived.Tactics
import Derived.Laws.CopyRow
set_option linter.unusedSimpArgs false
set_option linter.unusedVariables false

namespace Go.Tr
section
open Go
abbrev OA : Type := Option Addr
theorem osi {α : Type} {a b : α} (h : some a = some b) : a = b := Option.some.inj h
inductive D where
 | int (k : IntKind) (n : Int)
 | bool (b : Bool)
 | str (s : ByteArray)
 | agg (ds : List D)
 | sl (k : Nat) (ds : List D)
 | ifc (t : TypeId) (d : D)
mutual
def RepC (J : Nat → Prop) (w : World) : D → List Value → Prop
 | .int k n, cs => cs = [.int k n]
 | .bool b, cs => cs = [.bool b]
 | .str s, cs => cs = [.string s]
 | .agg ds, cs => RepA J w ds cs
 | .sl k ds, cs => ∃ a cap, cs = [.slice a ds.length cap] ∧ (ds.length ≤ cap ∧ ds.length ≤ 1152921504606846976) ∧ (ds = [] ∨ ∃ b off c T fz, a = some ⟨b, off, none⟩ ∧ J b ∧ w.heap[b]? = some (.cells c T fz) ∧ RepE J w k ds (c.toList.drop off))
 | .ifc t d, cs => ∃ v, cs = [.iface t v] ∧ RepC J w d [v]
def RepA (J : Nat → Prop) (w : World) : List D → List Value → Prop
 | [], cs => cs = []
 | d :: ds, cs => ∃ x y, cs = x ++ y ∧ RepC J w d x ∧ RepA J w ds y
def RepE (J : Nat → Prop) (w : World) (k : Nat) : List D → List Value → Prop
 | [], _ => True
 | d :: ds, cs => k ≤ cs.length ∧ RepC J w d (cs.take k) ∧ RepE J w k ds (cs.drop k)
 end
mutual
theorem RepC.map {J J' : Nat → Prop} {w w' : World} (h : ∀ b, b < w.heap.size → J b → J' b ∧ w'.heap[b]? = w.heap[b]?) : ∀ (d : D) (cs : List Value), RepC J w d cs → RepC J' w' d cs
 | .int k n, cs, hh => by simpa only [RepC] using hh
 | .bool b, cs, hh => by simpa only [RepC] using hh
 | .str s, cs, hh => by simpa only [RepC] using hh
 | .agg ds, cs, hh => by simp only [RepC] at hh ⊢; exact RepA.map h ds cs hh
 | .sl k ds, cs, hh => by
  simp only [RepC] at hh ⊢
  obtain ⟨a, cap, h1, h2, h3⟩ := hh
  refine ⟨a, cap, h1, h2, ?_⟩
  rcases h3 with h3 | ⟨b, off, c, T, fz, e, hj, hb, he⟩
  ·exact .inl h3
  ·have hlt : b < w.heap.size := by
    rcases Nat.lt_or_ge b w.heap.size with hlt | hge
    ·exact hlt
    ·simp [Array.getElem?_eq_none hge] at hb
   obtain ⟨hj', hb'⟩ := h b hlt hj
   exact .inr ⟨b, off, c, T, fz, e, hj', hb'.trans hb, RepE.map h k ds _ he⟩
 | .ifc t d, cs, hh => by
  simp only [RepC] at hh ⊢
  obtain ⟨v, h1, h2⟩ := hh
  exact ⟨v, h1, RepC.map h d [v] h2⟩
theorem RepA.map {J J' : Nat → Prop} {w w' : World} (h : ∀ b, b < w.heap.size → J b → J' b ∧ w'.heap[b]? = w.heap[b]?) : ∀ (ds : List D) (cs : List Value), RepA J w ds cs → RepA J' w' ds cs
 | [], cs, hh => by simpa only [RepA] using hh
 | d :: ds, cs, hh => by
  simp only [RepA] at hh ⊢
  obtain ⟨x, y, h1, h2, h3⟩ := hh
  exact ⟨x, y, h1, RepC.map h d x h2, RepA.map h ds y h3⟩
theorem RepE.map {J J' : Nat → Prop} {w w' : World} (h : ∀ b, b < w.heap.size → J b → J' b ∧ w'.heap[b]? = w.heap[b]?) (k : Nat) : ∀ (ds : List D) (cs : List Value), RepE J w k ds cs → RepE J' w' k ds cs
 | [], cs, hh => by simp only [RepE]
 | d :: ds, cs, hh => by
  simp only [RepE] at hh ⊢
  exact ⟨hh.1, RepC.map h d _ hh.2.1, RepE.map h k ds _ hh.2.2⟩
 end
def Rep (J : Nat → Prop) (w : World) (v : Value) : D → Prop
 | .agg ds => ∃ cs, v = .agg cs ∧ RepA J w ds cs.toList
 | d => RepC J w d [v]
theorem Rep.map {J J' : Nat → Prop} {w w' : World} (h : ∀ b, b < w.heap.size → J b → J' b ∧ w'.heap[b]? = w.heap[b]?) {v : Value} {d : D} (hh : Rep J w v d) : Rep J' w' v d := by
 cases d with
 | agg ds => obtain ⟨cs, h1, h2⟩ := hh; exact ⟨cs, h1, RepA.map h ds _ h2⟩
 | int k n => exact RepC.map h _ _ hh
 | bool b => exact RepC.map h _ _ hh
 | str s => exact RepC.map h _ _ hh
 | sl k ds => exact RepC.map h _ _ hh
 | ifc t d => exact RepC.map h _ _ hh
theorem RepE.get {J : Nat → Prop} {w : World} {k : Nat} : ∀ {ds : List D} {cs : List Value}, RepE J w k ds cs → ∀ {i : Nat} {d : D}, ds[i]? = some d → i * k + k ≤ cs.length ∧ RepC J w d ((cs.drop (i * k)).take k)
 | [], _, _, i, d, hi => by simp at hi
 | d0 :: ds, cs, h, 0, d, hi => by
  simp only [RepE] at h
  simp at hi
  subst hi
  simpa using ⟨h.1, h.2.1⟩
 | d0 :: ds, cs, h, i + 1, d, hi => by
  simp only [RepE] at h
  simp at hi
  have := RepE.get h.2.2 hi
  simp only [List.length_drop, List.drop_drop] at this
  have e : k + i * k = (i + 1) * k := by rw [Nat.add_mul]; omega
  rw [e] at this
  refine ⟨?_, this.2⟩
  have := this.1
  have e2 : (i + 1) * k = i * k + k := by rw [Nat.add_mul]; omega
  omega
theorem RepE.drop {J : Nat → Prop} {w : World} {k : Nat} : ∀ {ds : List D} {cs : List Value} (i : Nat), RepE J w k ds cs → RepE J w k (ds.drop i) (cs.drop (i * k))
 | ds, cs, 0, h => by simpa using h
 | [], cs, i + 1, h => by simp [RepE]
 | d :: ds, cs, i + 1, h => by
  simp only [RepE] at h
  have := RepE.drop i h.2.2
  simp only [List.drop_drop] at this
  have e : k + i * k = (i + 1) * k := by rw [Nat.add_mul]; omega
  rw [e] at this
  simpa using this
theorem RepE.take {J : Nat → Prop} {w : World} {k : Nat} : ∀ {ds : List D} {cs : List Value} (i : Nat), RepE J w k ds cs → RepE J w k (ds.take i) cs
 | ds, cs, 0, h => by simp [RepE]
 | [], cs, i + 1, h => by simp [RepE]
 | d :: ds, cs, i + 1, h => by
  simp only [RepE] at h
  simp only [List.take_succ_cons, RepE]
  exact ⟨h.1, h.2.1, RepE.take i h.2.2⟩
theorem RepE.append {J : Nat → Prop} {w : World} {k : Nat} : ∀ {ds es : List D} {xs ys : List Value}, RepE J w k ds xs → xs.length = ds.length * k → RepE J w k es ys → RepE J w k (ds ++ es) (xs ++ ys)
 | [], es, xs, ys, h, hl, h' => by
  have : xs = [] := by simpa using hl
  subst this
  simpa using h'
 | d :: ds, es, xs, ys, h, hl, h' => by
  simp only [RepE] at h
  simp only [List.length_cons, Nat.add_mul, Nat.one_mul] at hl
  simp only [List.cons_append, RepE, List.length_append]
  refine ⟨by omega, ?_, ?_⟩
  ·rw [List.take_append_of_le_length h.1]; exact h.2.1
  ·rw [List.drop_append_of_le_length h.1]
   exact RepE.append h.2.2 (by simp; omega) h'
theorem RepE.cut {J : Nat → Prop} {w : World} {k : Nat} : ∀ {ds : List D} {xs ys : List Value}, RepE J w k ds xs → ds.length * k ≤ ys.length → ys.take (ds.length * k) = xs.take (ds.length * k) → RepE J w k ds ys
 | [], xs, ys, h, hl, h' => by simp [RepE]
 | d :: ds, xs, ys, h, hl, h' => by
  simp only [RepE] at h
  simp only [List.length_cons, Nat.add_mul, Nat.one_mul] at hl h'
  simp only [RepE]
  have ht : ys.take k = xs.take k := by
   have := congrArg (List.take k) h'
   simpa [List.take_take, Nat.min_eq_left (Nat.le_add_left k (ds.length * k))] using this
  have hd : (ys.drop k).take (ds.length * k) = (xs.drop k).take (ds.length * k) := by
   have := congrArg (List.drop k) h'
   rw [List.drop_take, List.drop_take, Nat.add_sub_cancel] at this
   exact this
  exact ⟨by omega, by rw [ht]; exact h.2.1, RepE.cut h.2.2 (by simp; omega) hd⟩
theorem RepE.len {J : Nat → Prop} {w : World} {k : Nat} : ∀ {ds : List D} {cs : List Value}, RepE J w k ds cs → ds.length * k ≤ cs.length
 | [], cs, _ => by simp
 | d :: ds, cs, h => by
  simp only [RepE] at h
  have := RepE.len h.2.2
  simp only [List.length_drop] at this
  simp only [List.length_cons, Nat.add_mul, Nat.one_mul]
  omega
mutual
def okD : D → Prop
 | .agg ds => okL ds
 | .sl _ ds => ds.length ≤ 1152921504606846976 ∧ okL ds
 | .ifc _ d => okD d
 | _ => True
def okL : List D → Prop
 | [] => True
 | d :: ds => okD d ∧ okL ds
 end
mutual
theorem RepC.ok {J : Nat → Prop} {w : World} : ∀ (d : D) (cs : List Value), RepC J w d cs → okD d
 | .int k n, cs, h => trivial
 | .bool b, cs, h => trivial
 | .str s, cs, h => trivial
 | .agg ds, cs, h => by simp only [RepC] at h; simp only [okD]; exact RepA.ok ds cs h
 | .sl k ds, cs, h => by
  simp only [RepC] at h
  obtain ⟨a, cap, _, h2, h3⟩ := h
  simp only [okD]
  refine ⟨h2.2, ?_⟩
  rcases h3 with h3 | ⟨b, off, c, T, fz, _, _, _, he⟩
  ·subst h3; trivial
  ·exact RepE.ok k ds _ he
 | .ifc t d, cs, h => by
  simp only [RepC] at h
  obtain ⟨v, _, h2⟩ := h
  simp only [okD]
  exact RepC.ok d [v] h2
theorem RepA.ok {J : Nat → Prop} {w : World} : ∀ (ds : List D) (cs : List Value), RepA J w ds cs → okL ds
 | [], cs, h => trivial
 | d :: ds, cs, h => by
  simp only [RepA] at h
  obtain ⟨x, y, _, h1, h2⟩ := h
  exact ⟨RepC.ok d x h1, RepA.ok ds y h2⟩
theorem RepE.ok {J : Nat → Prop} {w : World} (k : Nat) : ∀ (ds : List D) (cs : List Value), RepE J w k ds cs → okL ds
 | [], cs, h => trivial
 | d :: ds, cs, h => by
  simp only [RepE] at h
  exact ⟨RepC.ok d _ h.2.1, RepE.ok k ds _ h.2.2⟩
 end
theorem Rep.ok {J : Nat → Prop} {w : World} {v : Value} {d : D} (h : Rep J w v d) : okD d := by
 cases d with
 | agg ds => obtain ⟨cs, _, h2⟩ := h; simp only [okD]; exact RepA.ok ds _ h2
 | int k n => trivial
 | bool b => trivial
 | str s => trivial
 | sl k ds => exact RepC.ok _ _ h
 | ifc t d => exact RepC.ok _ _ h
inductive SV where
 | v (x : Value)
 | loc (i off : Nat)
 | lod (i off : Nat)
 | slo (i off n c : Nat)
 | fn (f : Fn) (first caps : List SV)
 | agg (cs : List SV)
 | tup (xs : List SV)
 | mp (i : Nat)
 | ifc (t : TypeId) (s : SV)
 | yld (i : Nat)
structure Base where
 block : Nat
 off : Nat
instance : Inhabited Base := ⟨⟨0, 0⟩⟩
mutual
def SV.den (ℓ : List Base) : SV → Value
 | .v x => x
 | .loc i off => .pointer (some ⟨(ℓ.getD i default).block, (ℓ.getD i default).off + off, none⟩)
 | .lod i off => .pointer (some ⟨(ℓ.getD i default).block, (ℓ.getD i default).off + off, none⟩)
 | .slo i off n c => .slice (some ⟨(ℓ.getD i default).block, (ℓ.getD i default).off + off, none⟩) n c
 | .fn f first caps => .func f (qd ℓ first).toArray (qd ℓ caps).toArray
 | .agg cs => .agg (qd ℓ cs).toArray
 | .tup xs => .tuple (qd ℓ xs).toArray
 | .mp i => .map (some (ℓ.getD i default).block)
 | .ifc t s => .iface t (SV.den ℓ s)
 | .yld i => .func (.yield (ℓ.getD i default).block) #[] #[]
def qd (ℓ : List Base) : List SV → List Value
 | [] => []
 | s :: ss => SV.den ℓ s :: qd ℓ ss
 end
theorem qdw (ℓ : List Base) : ∀ (l : List SV), qd ℓ l = l.map (SV.den ℓ)
 | [] => rfl
 | s :: ss => by simp only [qd, List.map_cons, qdw ℓ ss]
theorem qar (ℓ : List Base) (a b : List SV) : qd ℓ (a ++ b) = qd ℓ a ++ qd ℓ b := by simp [qdw]
theorem qo (ℓ : List Base) (a : List SV) : (qd ℓ a).length = a.length := by simp [qdw]
mutual
def SV.wf (n : Nat) : SV → Bool
 | .v _ => true
 | .loc i _ => Nat.blt i n
 | .lod i _ => Nat.blt i n
 | .slo i _ _ _ => Nat.blt i n
 | .fn _ first caps => qr n first && qr n caps
 | .agg cs => qr n cs
 | .tup xs => qr n xs
 | .mp i => Nat.blt i n
 | .ifc _ s => SV.wf n s
 | .yld i => Nat.blt i n
def qr (n : Nat) : List SV → Bool
 | [] => true
 | s :: ss => SV.wf n s && qr n ss
 end
theorem blt_true {i n : Nat} : Nat.blt i n = true ↔ i < n := by simp [Nat.blt_eq]
mutual
theorem qy {n : Nat} {ℓ ℓ' : List Base} (h : ∀ i, i < n → ℓ'.getD i default = ℓ.getD i default) : ∀ (s : SV), s.wf n = true → s.den ℓ' = s.den ℓ
 | .v _, _ => rfl
 | .loc i off, hw => by simp only [SV.wf, blt_true] at hw; simp only [SV.den, h i hw]
 | .lod i off, hw => by simp only [SV.wf, blt_true] at hw; simp only [SV.den, h i hw]
 | .slo i off n c, hw => by simp only [SV.wf, blt_true] at hw; simp only [SV.den, h i hw]
 | .fn f first caps, hw => by
  simp only [SV.wf, Bool.and_eq_true] at hw
  simp only [SV.den, qx h first hw.1, qx h caps hw.2]
 | .agg cs, hw => by simp only [SV.wf] at hw; simp only [SV.den, qx h cs hw]
 | .tup xs, hw => by simp only [SV.wf] at hw; simp only [SV.den, qx h xs hw]
 | .mp i, hw => by simp only [SV.wf, blt_true] at hw; simp only [SV.den, h i hw]
 | .ifc t s, hw => by simp only [SV.wf] at hw; simp only [SV.den, qy h s hw]
 | .yld i, hw => by simp only [SV.wf, blt_true] at hw; simp only [SV.den, h i hw]
theorem qx {n : Nat} {ℓ ℓ' : List Base} (h : ∀ i, i < n → ℓ'.getD i default = ℓ.getD i default) : ∀ (l : List SV), qr n l = true → qd ℓ' l = qd ℓ l
 | [], _ => rfl
 | s :: ss, hw => by
  simp only [qr, Bool.and_eq_true] at hw
  simp only [qd, qy h s hw.1, qx h ss hw.2]
 end
mutual
theorem SV.wf_mono {n m : Nat} (h : n ≤ m) : ∀ (s : SV), s.wf n = true → s.wf m = true
 | .v _, _ => rfl
 | .loc i off, hw => by simp only [SV.wf, blt_true] at hw ⊢; omega
 | .lod i off, hw => by simp only [SV.wf, blt_true] at hw ⊢; omega
 | .slo i off n c, hw => by simp only [SV.wf, blt_true] at hw ⊢; omega
 | .fn f first caps, hw => by
  simp only [SV.wf, Bool.and_eq_true] at hw ⊢
  exact ⟨qbc h first hw.1, qbc h caps hw.2⟩
 | .agg cs, hw => by simp only [SV.wf] at hw ⊢; exact qbc h cs hw
 | .tup xs, hw => by simp only [SV.wf] at hw ⊢; exact qbc h xs hw
 | .mp i, hw => by simp only [SV.wf, blt_true] at hw ⊢; omega
 | .ifc t s, hw => by simp only [SV.wf] at hw ⊢; exact SV.wf_mono h s hw
 | .yld i, hw => by simp only [SV.wf, blt_true] at hw ⊢; omega
theorem qbc {n m : Nat} (h : n ≤ m) : ∀ (l : List SV), qr n l = true → qr m l = true
 | [], _ => rfl
 | s :: ss, hw => by
  simp only [qr, Bool.and_eq_true] at hw ⊢
  exact ⟨SV.wf_mono h s hw.1, qbc h ss hw.2⟩
 end
theorem SV.wfL_iff {n : Nat} : ∀ {l : List SV}, qr n l = true ↔ ∀ s ∈ l, s.wf n = true
 | [] => by simp [qr]
 | s :: ss => by simp only [qr, Bool.and_eq_true, SV.wfL_iff (l := ss)]; simp
mutual
def SV.ren (r : Nat → Nat) : SV → SV
 | .v x => .v x
 | .loc i off => .loc (r i) off
 | .lod i off => .lod (r i) off
 | .slo i off n c => .slo (r i) off n c
 | .fn f first caps => .fn f (qaz r first) (qaz r caps)
 | .agg cs => .agg (qaz r cs)
 | .tup xs => .tup (qaz r xs)
 | .mp i => .mp (r i)
 | .ifc t s => .ifc t (SV.ren r s)
 | .yld i => .yld (r i)
def qaz (r : Nat → Nat) : List SV → List SV
 | [] => []
 | s :: ss => SV.ren r s :: qaz r ss
 end
mutual
theorem qbi {n : Nat} {ℓ ℓ' : List Base} {r : Nat → Nat} (h : ∀ i, i < n → ℓ.getD (r i) default = ℓ'.getD i default) : ∀ (s : SV), s.wf n = true → (s.ren r).den ℓ = s.den ℓ'
 | .v _, _ => rfl
 | .loc i off, hw => by simp only [SV.wf, blt_true] at hw; simp only [SV.ren, SV.den, h i hw]
 | .lod i off, hw => by simp only [SV.wf, blt_true] at hw; simp only [SV.ren, SV.den, h i hw]
 | .slo i off n c, hw => by simp only [SV.wf, blt_true] at hw; simp only [SV.ren, SV.den, h i hw]
 | .fn f first caps, hw => by
  simp only [SV.wf, Bool.and_eq_true] at hw
  simp only [SV.ren, SV.den, qay h first hw.1, qay h caps hw.2]
 | .agg cs, hw => by simp only [SV.wf] at hw; simp only [SV.ren, SV.den, qay h cs hw]
 | .tup xs, hw => by simp only [SV.wf] at hw; simp only [SV.ren, SV.den, qay h xs hw]
 | .mp i, hw => by simp only [SV.wf, blt_true] at hw; simp only [SV.ren, SV.den, h i hw]
 | .ifc t s, hw => by simp only [SV.wf] at hw; simp only [SV.ren, SV.den, qbi h s hw]
 | .yld i, hw => by simp only [SV.wf, blt_true] at hw; simp only [SV.ren, SV.den, h i hw]
theorem qay {n : Nat} {ℓ ℓ' : List Base} {r : Nat → Nat} (h : ∀ i, i < n → ℓ.getD (r i) default = ℓ'.getD i default) : ∀ (l : List SV), qr n l = true → qd ℓ (qaz r l) = qd ℓ' l
 | [], _ => rfl
 | s :: ss, hw => by
  simp only [qr, Bool.and_eq_true] at hw
  simp only [qaz, qd, qbi h s hw.1, qay h ss hw.2]
 end
mutual
theorem SV.wf_ren {n m : Nat} {r : Nat → Nat} (h : ∀ i, i < n → r i < m) : ∀ (s : SV), s.wf n = true → (s.ren r).wf m = true
 | .v _, _ => rfl
 | .loc i off, hw => by simp only [SV.wf, SV.ren, blt_true] at hw ⊢; exact h i hw
 | .lod i off, hw => by simp only [SV.wf, SV.ren, blt_true] at hw ⊢; exact h i hw
 | .slo i off n c, hw => by simp only [SV.wf, SV.ren, blt_true] at hw ⊢; exact h i hw
 | .fn f first caps, hw => by
  simp only [SV.wf, SV.ren, Bool.and_eq_true] at hw ⊢
  exact ⟨qb8 h first hw.1, qb8 h caps hw.2⟩
 | .agg cs, hw => by simp only [SV.wf, SV.ren] at hw ⊢; exact qb8 h cs hw
 | .tup xs, hw => by simp only [SV.wf, SV.ren] at hw ⊢; exact qb8 h xs hw
 | .mp i, hw => by simp only [SV.wf, SV.ren, blt_true] at hw ⊢; exact h i hw
 | .ifc t s, hw => by simp only [SV.wf, SV.ren] at hw ⊢; exact SV.wf_ren h s hw
 | .yld i, hw => by simp only [SV.wf, SV.ren, blt_true] at hw ⊢; exact h i hw
theorem qb8 {n m : Nat} {r : Nat → Nat} (h : ∀ i, i < n → r i < m) : ∀ (l : List SV), qr n l = true → qr m (qaz r l) = true
 | [], _ => rfl
 | s :: ss, hw => by
  simp only [qr, qaz, Bool.and_eq_true] at hw ⊢
  exact ⟨SV.wf_ren h s hw.1, qb8 h ss hw.2⟩
 end
abbrev Env := List (Nat × SV)
def find : Env → Nat → Option SV
 | [], _ => none
 | (n, s) :: r, t => match Nat.beq n t with
  | true => some s
  | false => find r t
def envWf (n : Nat) : Env → Bool
 | [] => true
 | (_, s) :: r => match s.wf n with
  | true => envWf n r
  | false => false
def envRen (r : Nat → Nat) : Env → Env
 | [] => []
 | (t, s) :: e => (t, s.ren r) :: envRen r e
structure LoopX where
 N : Nat
 env : Env
 ps : Array Nat
 assign : Code
 body : Code
 state : LoopState
 pend : Option Code
 fn : FuncId → Prop
inductive Blk where
 | cells (T : TypeId) (cs : List SV)
 | obj (o : Obj)
 | imm (cs : List SV)
 | dead
 | lost
 | lp (x : LoopX)
 | iter (i since : Nat) (seen : Array Nat) (stepped : Nat)
structure Acc where
 v : Value
 k : Nat
 T : TypeId
 ds : List D
structure St where
 own : List Blk
 accs : List Acc
 reps : List (Value × D)
def Blk.mut : Blk → Bool
 | .cells _ _ => true
 | .obj _ => true
 | .lp _ => true
 | .iter .. => true
 | .lost => true
 | _ => false
def accBlk : Value → List Nat
 | .slice (some a) _ _ => [a.block]
 | .tuple xs => match xs.toList with
  | [.slice (some a) _ _] => [a.block]
  | _ => []
 | _ => []
def accVal : Value → Value
 | .tuple xs => match xs.toList with
  | [v] => v
  | _ => .tuple xs
 | v => v
def mutL : List Base → List Blk → List Nat
 | b :: ℓ, k :: ks => (if k.mut then [b.block] else []) ++ mutL ℓ ks
 | _, _ => []
def mutS (ℓ : List Base) (S : St) : List Nat := mutL ℓ S.own ++ S.accs.flatMap (fun a => accBlk a.v)
def BlkOK (J : Nat → Prop) (ℓ : List Base) (w : World) (b : Base) : Blk → Prop
 | .cells T cs => b.off = 0 ∧ w.heap[b.block]? = some (.cells (qd ℓ cs).toArray T (0, 0))
 | .obj o => b.off = 0 ∧ w.heap[b.block]? = some o
 | .imm cs => J b.block ∧ ∃ c T fz, w.heap[b.block]? = some (.cells c T fz) ∧ ∃ k, (c.toList.drop b.off).take k = qd ℓ cs
 | .dead => True
 | .lost => True
 | .iter i since seen stepped => b.off = 0 ∧ w.heap[b.block]? = some (.mapIter (some (ℓ.getD i default).block) since seen stepped)
 | .lp x => b.off = 0 ∧ ∃ r : Loop, w.heap[b.block]? = some (.loop r) ∧ r.state = x.state ∧ r.pending = x.pend ∧ r.params = x.ps ∧ r.assign = x.assign ∧ r.body = x.body ∧ (r.tmps.size = x.N ∧ x.fn r.fn) ∧ ∀ t s, find x.env t = some s → r.tmps.getD t undef = s.den ℓ
def Blk.wf (n : Nat) : Blk → Bool
 | .cells _ cs => qr n cs
 | .imm cs => qr n cs
 | .lp x => envWf n x.env
 | .iter i _ _ _ => Nat.blt i n
 | _ => true
def AccOK (J : Nat → Prop) (w : World) (a : Acc) : Prop :=
 (a.v = .slice none 0 0 ∧ a.ds = []) ∨
 (∃ b cap c, a.v = .slice (some ⟨b, 0, none⟩) a.ds.length cap ∧ w.heap[b]? = some (.cells c a.T (0, 0)) ∧ c.size = cap * a.k ∧ (a.ds.length ≤ cap ∧ a.ds.length ≤ 1152921504606846976) ∧ RepE J w a.k a.ds c.toList) ∨
 (∃ x n cap, a.v = .tuple #[.slice x n cap] ∧ n = a.ds.length ∧ (n ≤ cap ∧ n ≤ 1152921504606846976) ∧ (cap = 0 ∨ ∃ b off c, x = some ⟨b, off, none⟩ ∧ w.heap[b]? = some (.cells c a.T (0, 0)) ∧ c.size = off + cap * a.k ∧ RepE J w a.k a.ds (c.toList.drop off)))
theorem AccOK.two {J : Nat → Prop} {w : World} {a : Acc} (h : AccOK J w a) (hq : ∀ x n c, a.v ≠ .tuple #[.slice x n c]) : (a.v = .slice none 0 0 ∧ a.ds = []) ∨
  ∃ b cap c, a.v = .slice (some ⟨b, 0, none⟩) a.ds.length cap ∧ w.heap[b]? = some (.cells c a.T (0, 0)) ∧ c.size = cap * a.k ∧ (a.ds.length ≤ cap ∧ a.ds.length ≤ 1152921504606846976) ∧ RepE J w a.k a.ds c.toList := by
 rcases h with h | h | ⟨x, n, cap, hv, _⟩
 ·exact .inl h
 ·exact .inr h
 ·exact (hq x n cap hv).elim
theorem AccOK.row {J : Nat → Prop} {w : World} {a : Acc} (h : ∃ b cap c, a.v = .slice (some ⟨b, 0, none⟩) a.ds.length cap ∧ w.heap[b]? = some (.cells c a.T (0, 0)) ∧ c.size = cap * a.k ∧ (a.ds.length ≤ cap ∧ a.ds.length ≤ 1152921504606846976) ∧ RepE J w a.k a.ds c.toList) : AccOK J w a := .inr (.inl h)
theorem qcg {n : Nat} : ∀ {env : Env}, envWf n env = true → ∀ t s, find env t = some s → s.wf n = true
 | [], _, t, s, h => by simp [find] at h
 | (m, s0) :: r, hh, t, s, h => by
  simp only [envWf] at hh
  split at hh
  ·rename_i hw
   simp only [find] at h
   split at h
   ·cases h; exact hw
   ·exact qcg hh t s h
  ·cases hh
theorem qlt {n m : Nat} (h : n ≤ m) : ∀ {env : Env}, envWf n env = true → envWf m env = true
 | [], _ => rfl
 | (t, s) :: r, hh => by
  simp only [envWf] at hh ⊢
  split at hh
  ·rename_i hw
   rw [SV.wf_mono h s hw]
   exact qlt h hh
  ·cases hh
theorem qoi {n m : Nat} {r : Nat → Nat} (h : ∀ i, i < n → r i < m) : ∀ {env : Env}, envWf n env = true → envWf m (envRen r env) = true
 | [], _ => rfl
 | (t, s) :: e, hh => by
  simp only [envWf, envRen] at hh ⊢
  split at hh
  ·rename_i hw
   rw [SV.wf_ren h s hw]
   exact qoi h hh
  ·cases hh
theorem find_ren {r : Nat → Nat} : ∀ {env : Env} {t : Nat} {s : SV}, find (envRen r env) t = some s → ∃ s0, find env t = some s0 ∧ s = s0.ren r
 | [], t, s, h => by simp [find, envRen] at h
 | (n, s1) :: e, t, s, h => by
  simp only [find, envRen] at h ⊢
  cases hb : Nat.beq n t with
  | true => rw [hb] at h; cases h; exact ⟨s1, rfl, rfl⟩
  | false => rw [hb] at h; exact find_ren h
def Jx (J : Nat → Prop) (m : List Nat) : Nat → Prop := fun b => J b ∧ b ∉ m
structure Good (J : Nat → Prop) (ℓ : List Base) (S : St) (w : World) : Prop where
 len : ℓ.length = S.own.length
 nodup : (mutS ℓ S).Nodup
 lt : ∀ b ∈ mutS ℓ S, b < w.heap.size
 memJ : ∀ b ∈ mutS ℓ S, J b
 wf : ∀ k ∈ S.own, k.wf S.own.length = true
 own : ∀ (i : Nat) (b : Base) (k : Blk), ℓ[i]? = some b → S.own[i]? = some k → BlkOK (Jx J (mutS ℓ S)) ℓ w b k
 accs : ∀ a ∈ S.accs, AccOK (Jx J (mutS ℓ S)) w a
 reps : ∀ p ∈ S.reps, Rep (Jx J (mutS ℓ S)) w p.1 p.2
structure Ext (m : List Nat) (w w' : World) : Prop where
 os : w'.os = w.os
 output : w'.output = w.output
 size : w.heap.size ≤ w'.heap.size
 block : ∀ b, b < w.heap.size → b ∉ m → w'.heap[b]? = w.heap[b]?
theorem Ext.refl (m : List Nat) (w : World) : Ext m w w := ⟨rfl, rfl, Nat.le_refl _, fun _ _ _ => rfl⟩
theorem Ext.trans {m : List Nat} {a b c : World} (h : Ext m a b) (k : Ext m b c) : Ext m a c :=
 ⟨k.os.trans h.os, k.output.trans h.output, Nat.le_trans h.size k.size, fun i hi hm => (k.block i (Nat.lt_of_lt_of_le hi h.size) hm).trans (h.block i hi hm)⟩
theorem Ext.mono {m m' : List Nat} {a b : World} (h : Ext m a b) (hm : ∀ x ∈ m, x < a.heap.size → x ∈ m') : Ext m' a b :=
 ⟨h.os, h.output, h.size, fun i hi hn => h.block i hi (fun hx => hn (hm i hx hi))⟩
theorem Ext.then {m m' : List Nat} {a b c : World} (h : Ext m a b) (k : Ext m' b c) (hm : ∀ x ∈ m', x ∈ m ∨ a.heap.size ≤ x) : Ext m a c :=
 ⟨k.os.trans h.os, k.output.trans h.output, Nat.le_trans h.size k.size, fun i hi hn =>
  (k.block i (Nat.lt_of_lt_of_le hi h.size) (fun hx => by rcases hm i hx with h1 | h1; exact hn h1; omega)).trans (h.block i hi hn)⟩
theorem qag {w : World} {b : Nat} {o : Obj} (h : w.heap[b]? = some o) : b < w.heap.size := by
 rcases Nat.lt_or_ge b w.heap.size with hlt | hge
 ·exact hlt
 ·simp [Array.getElem?_eq_none hge] at h
end

section
open Go
def nth {α : Type} : List α → Nat → Option α
 | [], _ => none
 | a :: _, 0 => some a
 | _ :: l, n + 1 => nth l n
theorem qab {α : Type} : ∀ (l : List α) (n : Nat), nth l n = l[n]?
 | [], _ => rfl
 | _ :: _, 0 => rfl
 | _ :: l, n + 1 => by simpa [nth] using qab l n
def forceL {α β : Type} : List α → (List α → β) → β
 | [], K => K []
 | a :: l, K => forceL l (fun l' => K (a :: l'))
theorem qu {α β : Type} : ∀ (l : List α) (K : List α → β), forceL l K = K l
 | [], _ => rfl
 | a :: l, K => qu l (fun l' => K (a :: l'))
def setRange {α : Type} (l : List α) (off : Nat) (xs : List α) : List α := l.take off ++ (xs ++ l.drop (off + xs.length))
inductive TK where
 | cell (z : Value)
 | slice (e : TypeId) (k : Nat)
 | str
 | map (key elem : TypeId)
 | struct (offs szs : List Nat) (zs : List Value)
 | arr (n : Nat) (e : TypeId) (k : Nat) (zs : List Value)
structure CellTy (P : Program) (t : TypeId) (z : Value) : Prop where
 agg : ∀ w, (isAgg t).run P w = .ok false w
 size : ∀ w, (sizeOf t).run P w = .ok 1 w
 zero : ∀ w, (zeroValue t).run P w = .ok z w
 cells : z.cells = #[z]
def TyOK (P : Program) (t : TypeId) : TK → Prop
 | .cell z => CellTy P t z
 | .slice e k => CellTy P t (.slice none 0 0) ∧ P.underlying t = some (.slice e) ∧ (∀ w, (sizeOf e).run P w = .ok k w)
 | .str => CellTy P t (.string ByteArray.empty) ∧ P.underlying t = some .string
 | .map key elem => CellTy P t (.map none) ∧ P.underlying t = some (.map key elem)
 | .struct offs szs zs => (∀ w, (isAgg t).run P w = .ok true w) ∧ (∀ w, (sizeOf t).run P w = .ok zs.length w) ∧ (∀ w, (zeroValue t).run P w = .ok (.agg zs.toArray) w) ∧
   ∃ fs : Array Field, P.underlying t = some (.struct fs) ∧ fs.toList.map (·.offset) = offs ∧ szs.length = fs.size ∧ ∀ (i : Nat) (f : Field) (n : Nat), fs[i]? = some f → szs[i]? = some n → n ≠ 0 ∧ ∀ w, (sizeOf f.type).run P w = .ok n w
 | .arr n e k zs => (∀ w, (isAgg t).run P w = .ok true w) ∧ (∀ w, (sizeOf t).run P w = .ok zs.length w) ∧ (∀ w, (zeroValue t).run P w = .ok (.agg zs.toArray) w) ∧
   P.underlying t = some (.array n e) ∧ (∀ w, (sizeOf e).run P w = .ok k w)
abbrev Tab := TypeId → Option TK
def TTOK (P : Program) (tt : Tab) : Prop := ∀ t k, tt t = some k → TyOK P t k
def tabOf : List (Nat × TK) → Tab
 | [], _ => none
 | (n, k) :: r, t => match Nat.beq n t with
  | true => some k
  | false => tabOf r t
theorem TTOK_nil (P : Program) : TTOK P (tabOf []) := by intro t k h; simp [tabOf] at h
theorem qc {P : Program} {n : Nat} {k : TK} {r : List (Nat × TK)} (h : TyOK P n k) (hr : TTOK P (tabOf r)) : TTOK P (tabOf ((n, k) :: r)) := by
 intro t k' h'
 simp only [tabOf] at h'
 split at h'
 ·rename_i hb
  have := Nat.eq_of_beq_eq_true hb
  subst this
  cases h'
  exact h
 ·exact hr t k' h'
def kidx : IntKind → Nat
 | .i8 => 0 | .i16 => 1 | .i32 => 2 | .i64 => 3 | .u8 => 4 | .u16 => 5 | .u32 => 6 | .u64 => 7
theorem kidx_inj {a b : IntKind} (h : Nat.beq (kidx a) (kidx b) = true) : a = b := by
 cases a <;> cases b <;> first | rfl | (simp [kidx] at h)
def intBin : BinOp → IntKind → Int → Int → Option Value
 | .add, k, a, b => some (.int k (k.wrap (a + b)))
 | .sub, k, a, b => some (.int k (k.wrap (a - b)))
 | .mul, k, a, b => some (.int k (k.wrap (a * b)))
 | .eql, _, a, b => some (.bool (a == b))
 | .neq, _, a, b => some (.bool (a != b))
 | .lss, _, a, b => some (.bool (decide (a < b)))
 | .leq, _, a, b => some (.bool (decide (a ≤ b)))
 | .gtr, _, a, b => some (.bool (decide (a > b)))
 | .geq, _, a, b => some (.bool (decide (a ≥ b)))
 | _, _, _, _ => none
def strBin : BinOp → ByteArray → ByteArray → Option Value
 | .eql, a, b => some (.bool (a.toList == b.toList))
 | .neq, a, b => some (.bool (!(a.toList == b.toList)))
 | .lss, a, b => some (.bool (Op.bytesLess a.toList b.toList))
 | .gtr, a, b => some (.bool (!(Op.bytesLess a.toList b.toList || a.toList == b.toList)))
 | .leq, a, b => some (.bool (Op.bytesLess a.toList b.toList || a.toList == b.toList))
 | .geq, a, b => some (.bool (!Op.bytesLess a.toList b.toList))
 | _, _, _ => none
def cellsOf : SV → List SV
 | .agg cs => cs
 | s => [s]
def plainS : SV → Bool
 | .v (.agg _) => false
 | _ => true
def oneCell : SV → Bool
 | .agg _ => false
 | .tup _ => false
 | .v x => x.oneCell'
 | _ => true
abbrev Getter := List (Nat × Bool) → Operand → Option SV
def knownOf : List (Nat × Bool) → Nat → Option Bool
 | [], _ => none
 | (g, b) :: r, t => match Nat.beq g t with
  | true => some b
  | false => knownOf r t
def getAll (get : Getter) : List Operand → Option (List SV)
 | [] => some []
 | x :: xs => match get [] x with
  | some s => match getAll get xs with
   | some ss => some (s :: ss)
   | none => none
  | none => none
def fillS (offs szs : List Nat) (cells : List SV) (get : Getter) : List (Nat × Operand) → Option (List SV)
 | [] => some cells
 | (i, x) :: rest => match nth offs i, nth szs i, get [] x with
  | some off, some sz, some s => match (plainS s && Nat.beq (cellsOf s).length sz) && Nat.ble (off + sz) cells.length with
   | true => forceL (setRange cells off (cellsOf s)) (fun c => fillS offs szs c get rest)
   | false => none
  | _, _, _ => none
def purePick (kn : List (Nat × Bool)) (get : Getter) (g : Nat) (a b : Operand) : Option SV :=
 match knownOf kn g with
 | some true => get [] a
 | some false => get [] b
 | none => match get [] (.tmp g) with
  | some (.v (.bool cb)) => match a with
   | .const (.bool true) => match get [(g, false)] b with
    | some (.v (.bool bb)) => some (.v (.bool (cb || bb)))
    | _ => none
   | a => match b with
    | .const (.bool false) => match get [(g, true)] a with
     | some (.v (.bool ab)) => some (.v (.bool (cb && ab)))
     | _ => none
    | b => match get [(g, true)] a, get [(g, false)] b with
     | some (.v (.bool ab)), some (.v (.bool bb)) => some (.v (.bool (if cb then ab else bb)))
     | _, _ => none
  | _ => none
def pureNil : Option SV → Option SV
 | some (.loc i o) => some (.loc i o)
 | some (.fn (.func f) first caps) => some (.fn (.func f) first caps)
 | _ => none
def cellsIn : Option Blk → Option (List SV)
 | some (.cells _ cs) => some cs
 | some (.imm cs) => some cs
 | _ => none
def loadFrom (cs : List SV) (o : Nat) : Option TK → Option SV
 | some (.cell _) => nth cs o
 | some (.slice _ _) => nth cs o
 | some .str => nth cs o
 | some (.map _ _) => nth cs o
 | some (.struct _ _ zs) => match Nat.ble (o + zs.length) cs.length with
  | true => forceL ((cs.drop o).take zs.length) (fun l => some (.agg l))
  | false => none
 | some (.arr _ _ _ zs) => match Nat.ble (o + zs.length) cs.length with
  | true => forceL ((cs.drop o).take zs.length) (fun l => some (.agg l))
  | false => none
 | none => none
def pureLoad (tt : Tab) (own : List Blk) (t : TypeId) : Option SV → Option SV
 | some (.loc i o) => match cellsIn (nth own i) with
  | some cs => loadFrom cs o (tt t)
  | none => none
 | _ => none
def pureField (f : Nat) : Option SV → Option TK → Option SV
 | some (.loc i o), some (.struct offs _ _) => match nth offs f with
  | some d => some (.loc i (o + d))
  | none => none
 | _, _ => none
def liftV : Option Value → Option SV
 | some v => some (.v v)
 | none => none
def pureBin (op : BinOp) : Option SV → Option SV → Option SV
 | some (.v (.int k a)), some (.v (.int k' b)) => match Nat.beq (kidx k) (kidx k') with
  | true => liftV (intBin op k a b)
  | false => none
 | some (.v (.string a)), some (.v (.string b)) => liftV (strBin op a b)
 | _, _ => none
def pureUn : UnOp → Option SV → Option SV
 | .not, some (.v (.bool b)) => some (.v (.bool (!b)))
 | .neg, some (.v (.int k n)) => some (.v (.int k (k.wrap (0 - n))))
 | _, _ => none
def pureFn (fn : Fn) : Option (List SV) → Option (List SV) → Option SV
 | some l, some l' => some (.fn fn l l')
 | _, _ => none
def pureExt (i : Nat) : Option SV → Option SV
 | some (.tup xs) => nth xs i
 | _ => none
def pureBuild (get : Getter) (parts : Array (Nat × Operand)) : Option TK → Option SV
 | some (.struct offs szs zs) => match forceL (zs.map SV.v) (fun z => fillS offs szs z get parts.toList) with
  | some l => some (.agg l)
  | none => none
 | _ => none
def pureLen : Option SV → Option TK → Option SV
 | some (.v (.slice _ n _)), some (.slice _ _) => some (.v (.int .i64 n))
 | some (.v (.string s)), some .str => some (.v (.int .i64 s.size))
 | some (.slo _ _ n _), some (.slice _ _) => some (.v (.int .i64 n))
 | _, _ => none
def pureLenOf (tt : Tab) (get : Getter) : List Operand → List TypeId → Option SV
 | [x], [t] => pureLen (get [] x) (tt t)
 | _, _ => none
def pureCall (tt : Tab) (get : Getter) (c : Call) : Option SV :=
 match c.callee with
 | .builtin .len => pureLenOf tt get c.args.toList c.argTypes.toList
 | _ => none
def stepPure (tt : Tab) (own : List Blk) (kn : List (Nat × Bool)) (get : Getter) : Op → Option SV
 | .move x => get [] x
 | .assign x => get [] x
 | .pick (.tmp g) a b => purePick kn get g a b
 | .nilCheck x => pureNil (get [] x)
 | .load t x => pureLoad tt own t (get [] x)
 | .fieldAddr t x f => pureField f (get [] x) (tt t)
 | .binOp op _ x y _ => pureBin op (get [] x) (get [] y)
 | .unOp op _ x => pureUn op (get [] x)
 | .makeFunc fn first caps => pureFn fn (getAll get first.toList) (getAll get caps.toList)
 | .extract x i => pureExt i (get [] x)
 | .build t parts => pureBuild get parts (tt t)
 | .call c => pureCall tt get c
 | _ => none
end

section
open Go
theorem qcx (ℓ : List Base) : ∀ (cs : List SV) (j : Nat), (qd ℓ cs)[j]? = (cs[j]?).map (SV.den ℓ) := by
 intro cs j; rw [qdw, List.getElem?_map]
structure PCtx (P : Program) (tt : Tab) (J : Nat → Prop) (ℓ : List Base) (own : List Blk) (n : Nat) (ρ : Operand → Value) (kn : List (Nat × Bool)) (get : Getter) (w : World) : Prop where
 hT : TTOK P tt
 const : ∀ v, ρ (.const v) = v
 get0 : ∀ x s, get [] x = some s → s.wf n = true ∧ ρ x = s.den ℓ
 get1 : ∀ g b x s, get [(g, b)] x = some s → ρ (.tmp g) = .bool b → s.wf n = true ∧ ρ x = s.den ℓ
 hkn : ∀ g b, knownOf kn g = some b → ρ (.tmp g) = .bool b
 own : ∀ i cs, cellsIn (nth own i) = some cs → qr n cs = true ∧ ∃ b, ℓ[i]? = some b ∧ ∀ j v, (qd ℓ cs)[j]? = some v → w.cell? ⟨b.block, b.off + j, none⟩ = some v
section
variable {P : Program} {tt : Tab} {J : Nat → Prop} {ℓ : List Base} {own : List Blk} {n : Nat} {ρ : Operand → Value} {kn : List (Nat × Bool)} {get : Getter} {w : World}
theorem qpe {k : Blk} {b : Base} {cs : List SV} (hwf : k.wf n = true) (hok : BlkOK J ℓ w b k) (h : cellsIn (some k) = some cs) :
  qr n cs = true ∧ ∀ j v, (qd ℓ cs)[j]? = some v → w.cell? ⟨b.block, b.off + j, none⟩ = some v := by
 cases k with
 | cells T c =>
  simp only [cellsIn, Option.some.injEq] at h
  subst h
  simp only [BlkOK] at hok
  refine ⟨hwf, fun j v hj => ?_⟩
  simp only [World.cell?, hok.2, hok.1, Nat.zero_add]
  simpa using hj
 | imm c =>
  simp only [cellsIn, Option.some.injEq] at h
  subst h
  simp only [BlkOK] at hok
  obtain ⟨_, c', T, fz, hb', k', ht⟩ := hok
  refine ⟨hwf, fun j v hj => ?_⟩
  rw [← ht, List.getElem?_take] at hj
  split at hj
  ·rw [List.getElem?_drop] at hj
   simp only [World.cell?, hb']
   simpa using hj
  ·cases hj
 | obj o => simp [cellsIn] at h
 | dead => simp [cellsIn] at h
 | lost => simp [cellsIn] at h
 | lp x => simp [cellsIn] at h
 | iter i s n p => simp [cellsIn] at h
theorem PCtx.cells (C : PCtx P tt J ℓ own n ρ kn get w) {i : Nat} {cs : List SV} (h : cellsIn (nth own i) = some cs) :
  qr n cs = true ∧ ∃ b, ℓ[i]? = some b ∧ ∀ j v, (qd ℓ cs)[j]? = some v → w.cell? ⟨b.block, b.off + j, none⟩ = some v := C.own i cs h
theorem wfL_get {n : Nat} {cs : List SV} (h : qr n cs = true) {j : Nat} {s : SV} (hj : nth cs j = some s) : s.wf n = true := by
 rw [qab] at hj
 exact SV.wfL_iff.1 h s (List.mem_of_getElem? hj)
theorem wfL_take {n : Nat} {cs : List SV} (h : qr n cs = true) (j : Nat) : qr n (cs.take j) = true :=
 SV.wfL_iff.2 fun s hs => SV.wfL_iff.1 h s (List.mem_of_mem_take hs)
theorem wfL_drop {n : Nat} {cs : List SV} (h : qr n cs = true) (j : Nat) : qr n (cs.drop j) = true :=
 SV.wfL_iff.2 fun s hs => SV.wfL_iff.1 h s (List.mem_of_mem_drop hs)
theorem qhh {n : Nat} {a b : List SV} (h : qr n a = true) (h' : qr n b = true) : qr n (a ++ b) = true :=
 SV.wfL_iff.2 fun s hs => by rcases List.mem_append.1 hs with h1 | h1; exact SV.wfL_iff.1 h s h1; exact SV.wfL_iff.1 h' s h1
theorem qgs (C : PCtx P tt J ℓ own n ρ kn get w) {t : TypeId} (hagg : ∀ w, (isAgg t).run P w = .ok false w) {i o : Nat} {cs : List SV} (h : cellsIn (nth own i) = some cs) {s : SV} (hs : nth cs o = some s) :
  s.wf n = true ∧ (Instr.loadAt t ((SV.loc i o).den ℓ)).run P w = .ok (s.den ℓ) w := by
 obtain ⟨hw, b, hb, hc⟩ := C.cells h
 refine ⟨wfL_get hw hs, ?_⟩
 have hv := hc o (s.den ℓ) (by rw [qcx, ← qab, hs]; rfl)
 have hd : ℓ.getD i default = b := by simp [List.getD, hb]
 simp only [SV.den, hd, Instr.loadAt, Instr.sureAddr, pure_bind, loadVar, Sem.run_bind, hagg, Result.andThen_ok, Bool.false_eq_true, if_false, run_load, hv]
theorem load_agg (C : PCtx P tt J ℓ own n ρ kn get w) {t : TypeId} {zs : List Value} (hagg : ∀ w, (isAgg t).run P w = .ok true w) (hsz : ∀ w, (sizeOf t).run P w = .ok zs.length w) {i o : Nat} {cs : List SV} (h : cellsIn (nth own i) = some cs) (hle : o + zs.length ≤ cs.length) :
  (SV.agg ((cs.drop o).take zs.length)).wf n = true ∧ (Instr.loadAt t ((SV.loc i o).den ℓ)).run P w = .ok ((SV.agg ((cs.drop o).take zs.length)).den ℓ) w := by
 obtain ⟨hw, b, hb, hc⟩ := C.cells h
 refine ⟨by simp only [SV.wf]; exact wfL_take (wfL_drop hw _) _, ?_⟩
 have hd : ℓ.getD i default = b := by simp [List.getD, hb]
 have hlen : (qd ℓ ((cs.drop o).take zs.length)).length = zs.length := by rw [qo, List.length_take, List.length_drop]; omega
 have hrun := run_loadCells_list (P := P) w ⟨b.block, b.off + o, none⟩ (qd ℓ ((cs.drop o).take zs.length)) (fun j v hj => by
  have hj' : j < zs.length := by
   have := (List.getElem?_eq_some_iff.1 hj).1
   omega
  have he : (Addr.add ⟨b.block, b.off + o, none⟩ j) = ⟨b.block, b.off + (o + j), none⟩ := by
   unfold Addr.add; split
   ·subst_vars; rfl
   ·simp [Nat.add_assoc]
  rw [he]
  refine hc _ _ ?_
  rw [qcx, List.getElem?_take, if_pos hj', List.getElem?_drop] at hj
  rw [qcx]; exact hj)
 rw [hlen] at hrun
 simp only [SV.den, hd, Instr.loadAt, Instr.sureAddr, pure_bind, loadVar, Sem.run_bind, hagg, Result.andThen_ok, if_true, hsz, hrun, Sem.run_pure]
theorem qk7 (C : PCtx P tt J ℓ own n ρ kn get w) {t : TypeId} {x : Operand} {s : SV} (h : pureLoad tt own t (get [] x) = some s) :
  s.wf n = true ∧ (Instr.loadAt t (ρ x)).run P w = .ok (s.den ℓ) w := by
 unfold pureLoad at h
 split at h
 ·rename_i i o hx
  have hρ := (C.get0 _ _ hx).2
  rw [hρ]
  split at h
  ·rename_i cs hcs
   unfold loadFrom at h
   split at h
   ·rename_i z hz
    exact qgs C (C.hT t _ hz).agg hcs h
   ·rename_i e k hz
    exact qgs C (C.hT t _ hz).1.agg hcs h
   ·rename_i hz
    exact qgs C (C.hT t _ hz).1.agg hcs h
   ·rename_i key elem hz
    exact qgs C (C.hT t _ hz).1.agg hcs h
   ·rename_i offs szs zs hz
    split at h
    ·rename_i hle
     rw [qu] at h
     cases h
     obtain ⟨h1, h2, _⟩ := C.hT t _ hz
     exact load_agg C h1 h2 hcs (Nat.le_of_ble_eq_true hle)
    ·cases h
   ·rename_i m e k zs hz
    split at h
    ·rename_i hle
     rw [qu] at h
     cases h
     obtain ⟨h1, h2, _⟩ := C.hT t _ hz
     exact load_agg C h1 h2 hcs (Nat.le_of_ble_eq_true hle)
    ·cases h
   ·cases h
  ·cases h
 ·cases h
theorem qq {t : TypeId} {d : TypeDesc} (h : P.underlying t = some d) : (underlying t).run P w = .ok d w := by
 simp [underlying, h]
theorem qi3 (C : PCtx P tt J ℓ own n ρ kn get w) {t : TypeId} {x : Operand} {f : Nat} {s : SV} (h : pureField f (get [] x) (tt t) = some s) :
  s.wf n = true ∧ (Instr.fieldAt t (ρ x) f).run P w = .ok (s.den ℓ) w := by
 unfold pureField at h
 split at h
 ·rename_i i o offs szs zs hx ht
  obtain ⟨hw, hρ⟩ := C.get0 _ _ hx
  rw [hρ]
  split at h
  ·rename_i d hd
   cases h
   refine ⟨hw, ?_⟩
   obtain ⟨_, _, _, fs, hu, hoffs, hszs, hf⟩ := C.hT t _ ht
   rw [qab, ← hoffs] at hd
   simp only [List.getElem?_map, Option.map_eq_some_iff] at hd
   obtain ⟨fd, hfd, rfl⟩ := hd
   have hfd' : fs[f]? = some fd := by simpa using hfd
   have hlt : f < fs.size := by
    rcases Nat.lt_or_ge f fs.size with hh | hh
    ·exact hh
    ·simp [Array.getElem?_eq_none hh] at hfd'
   obtain ⟨k, hk⟩ : ∃ k, szs[f]? = some k := ⟨szs[f]'(by omega), by simp [List.getElem?_eq_getElem (show f < szs.length by omega)]⟩
   obtain ⟨hk0, hsz⟩ := hf f fd k hfd' hk
   simp only [Instr.fieldAt, Sem.run_bind, qq hu, Result.andThen_ok, hfd', SV.den, Instr.sureAddr, pure_bind, fieldPlace, hsz, if_neg hk0, Sem.run_pure]
   congr 3
   unfold Addr.add
   split
   ·rename_i h0; simp [h0]
   ·simp [Nat.add_assoc]
  ·cases h
 ·cases h
theorem qn0 {op : BinOp} {k : IntKind} {a b : Int} {v : Value} {t : TypeId} (h : intBin op k a b = some v) : (binOp op t (.int k a) (.int k b)).run P w = .ok v w := by
 cases op <;> simp only [intBin, Option.some.injEq, reduceCtorEq] at h <;> subst h <;> simp [binOp, Op.intArith, Op.intCmp]
theorem qns {op : BinOp} {a b : ByteArray} {v : Value} {t : TypeId} (h : strBin op a b = some v) : (binOp op t (.string a) (.string b)).run P w = .ok v w := by
 cases op <;> simp only [strBin, Option.some.injEq, reduceCtorEq] at h <;> subst h <;> simp [binOp, Op.stringOp]
theorem qov {op : BinOp} {t : TypeId} {x y : Operand} {k k' : IntKind} {a b : Int} : (eqGuard op t x y (.int k a) (.int k' b)).run P w = .ok () w := by
 cases op <;> simp [eqGuard]
theorem qon {op : BinOp} {t : TypeId} {x y : Operand} {a b : ByteArray} : (eqGuard op t x y (.string a) (.string b)).run P w = .ok () w := by
 cases op <;> simp [eqGuard]
theorem qm7 (C : PCtx P tt J ℓ own n ρ kn get w) {op : BinOp} {t : TypeId} {x y : Operand} {s : SV} (h : pureBin op (get [] x) (get [] y) = some s) :
  s.wf n = true ∧ (do eqGuard op t x y (ρ x) (ρ y); binOp op t (ρ x) (ρ y) : Sem Value).run P w = .ok (s.den ℓ) w := by
 unfold pureBin at h
 split at h
 ·rename_i k a k' b hx hy
  rw [(C.get0 _ _ hx).2, (C.get0 _ _ hy).2]
  split at h
  ·rename_i hk
   have := kidx_inj hk
   subst this
   unfold liftV at h
   split at h
   ·rename_i v hv
    cases h
    refine ⟨rfl, ?_⟩
    simp only [SV.den, Sem.run_bind, qov, Result.andThen_ok, qn0 hv]
   ·cases h
  ·cases h
 ·rename_i a b hx hy
  rw [(C.get0 _ _ hx).2, (C.get0 _ _ hy).2]
  unfold liftV at h
  split at h
  ·rename_i v hv
   cases h
   refine ⟨rfl, ?_⟩
   simp only [SV.den, Sem.run_bind, qon, Result.andThen_ok, qns hv]
  ·cases h
 ·cases h
theorem qk0 (C : PCtx P tt J ℓ own n ρ kn get w) {g : Nat} {a b : Operand} {s : SV} (h : purePick kn get g a b = some s) :
  s.wf n = true ∧ (do pure (if ← asBool (ρ (.tmp g)) then ρ a else ρ b) : Sem Value).run P w = .ok (s.den ℓ) w := by
 unfold purePick at h
 split at h
 ·rename_i hk
  have := C.hkn g _ hk
  have h1 := C.get0 _ _ h
  rw [this]
  exact ⟨h1.1, by simp [asBool, h1.2]⟩
 ·rename_i hk
  have := C.hkn g _ hk
  have h1 := C.get0 _ _ h
  rw [this]
  exact ⟨h1.1, by simp [asBool, h1.2]⟩
 ·split at h
  ·rename_i cb hc
   have hg : ρ (.tmp g) = .bool cb := (C.get0 _ _ hc).2
   split at h
   ·split at h
    ·rename_i bb hb
     cases h
     refine ⟨rfl, ?_⟩
     rw [hg, C.const]
     cases cb with
     | true => simp [asBool, SV.den]
     | false => simp [asBool, SV.den, (C.get1 _ _ _ _ hb hg).2]
    ·cases h
   ·split at h
    ·split at h
     ·rename_i ab ha
      cases h
      refine ⟨rfl, ?_⟩
      rw [hg, C.const]
      cases cb with
      | true => simp [asBool, SV.den, (C.get1 _ _ _ _ ha hg).2]
      | false => simp [asBool, SV.den]
     ·cases h
    ·split at h
     ·rename_i ab bb ha hb
      cases h
      refine ⟨rfl, ?_⟩
      rw [hg]
      cases cb with
      | true => simp [asBool, SV.den, (C.get1 _ _ _ _ ha hg).2]
      | false => simp [asBool, SV.den, (C.get1 _ _ _ _ hb hg).2]
     ·cases h
  ·cases h
theorem qof (C : PCtx P tt J ℓ own n ρ kn get w) {op : UnOp} {x : Operand} {s : SV} (h : pureUn op (get [] x) = some s) :
  s.wf n = true ∧ (Op.unary op (ρ x)).run P w = .ok (s.den ℓ) w := by
 unfold pureUn at h
 split at h
 ·rename_i b hx
  rw [(C.get0 _ _ hx).2]
  cases h
  exact ⟨rfl, by simp [SV.den, Op.unary]⟩
 ·rename_i k m hx
  rw [(C.get0 _ _ hx).2]
  cases h
  exact ⟨rfl, by simp [SV.den, Op.unary, Op.intArith]⟩
 ·cases h
theorem qw (C : PCtx P tt J ℓ own n ρ kn get w) : ∀ (xs : List Operand) (l : List SV), getAll get xs = some l → qr n l = true ∧ xs.map ρ = qd ℓ l
 | [], l, h => by simp only [getAll, Option.some.injEq] at h; subst h; exact ⟨rfl, rfl⟩
 | x :: xs, l, h => by
  simp only [getAll] at h
  split at h
  ·rename_i s hs
   split at h
   ·rename_i ss hss
    cases h
    have h1 := C.get0 _ _ hs
    have h2 := qw C xs ss hss
    exact ⟨by simp [qr, h1.1, h2.1], by simp [qd, h1.2, h2.2]⟩
   ·cases h
  ·cases h
theorem qng (C : PCtx P tt J ℓ own n ρ kn get w) {fn : Fn} {first caps : Array Operand} {s : SV} (h : pureFn fn (getAll get first.toList) (getAll get caps.toList) = some s) :
  s.wf n = true ∧ (Instr.makeFunc fn (first.map ρ) (caps.map ρ)).run P w = .ok (s.den ℓ) w := by
 unfold pureFn at h
 split at h
 ·rename_i l l' h1 h2
  cases h
  have e1 := qw C _ _ h1
  have e2 := qw C _ _ h2
  refine ⟨by simp [SV.wf, e1.1, e2.1], ?_⟩
  have a1 : first.map ρ = (qd ℓ l).toArray := by rw [← Array.toList_inj, Array.toList_map, e1.2]
  have a2 : caps.map ρ = (qd ℓ l').toArray := by rw [← Array.toList_inj, Array.toList_map, e2.2]
  simp [Instr.makeFunc, SV.den, a1, a2]
 ·cases h
theorem qm1 (C : PCtx P tt J ℓ own n ρ kn get w) {i : Nat} {x : Operand} {s : SV} (h : pureExt i (get [] x) = some s) :
  s.wf n = true ∧ (Instr.extract (ρ x) i).run P w = .ok (s.den ℓ) w := by
 unfold pureExt at h
 split at h
 ·rename_i xs hx
  obtain ⟨hw, hρ⟩ := C.get0 _ _ hx
  rw [hρ]
  simp only [SV.wf] at hw
  refine ⟨wfL_get hw h, ?_⟩
  have : (qd ℓ xs)[i]? = some (s.den ℓ) := by rw [qcx, ← qab, h]; rfl
  simp [Instr.extract, SV.den, this]
 ·cases h
theorem qma (C : PCtx P tt J ℓ own n ρ kn get w) {x : Operand} {s : SV} {o : Oper} (ho : o.op = .nilCheck x) (h : pureNil (get [] x) = some s) :
  s.wf n = true ∧ (execOp ρ o).run P w = .ok (.value (s.den ℓ)) w := by
 unfold pureNil at h
 split at h
 ·rename_i i off hx
  cases h
  obtain ⟨hw, hρ⟩ := C.get0 _ _ hx
  rw [SV.den] at hρ
  refine ⟨hw, ?_⟩
  unfold execOp
  rw [ho]
  simp only [hρ, SV.den, Sem.run_pure]
 ·rename_i f first caps hx
  cases h
  obtain ⟨hw, hρ⟩ := C.get0 _ _ hx
  rw [SV.den] at hρ
  refine ⟨hw, ?_⟩
  unfold execOp
  rw [ho]
  simp only [hρ, SV.den, Sem.run_pure]
 ·cases h
theorem qmg (hT : TTOK P tt) {s s' : SV} {t : TypeId} (h : pureLen (some s) (tt t) = some s') (ty : TypeId) :
  s'.wf n = true ∧ (Builtin.len_ #[t] ty #[s.den ℓ]).run P w = .ok (s'.den ℓ) w := by
 unfold pureLen at h
 split at h
 ·rename_i x k a m c e kk hx ht
  cases hx
  cases h
  have hu := (hT t _ ht).2.1
  exact ⟨rfl, by simp [Builtin.len_, SV.den, qq hu, goInt]⟩
 ·rename_i x k b hx ht
  cases hx
  cases h
  have hu := (hT t _ ht).2
  exact ⟨rfl, by simp [Builtin.len_, SV.den, qq hu, goInt]⟩
 ·rename_i x k i off m c e kk hx ht
  cases hx
  cases h
  have hu := (hT t _ ht).2.1
  exact ⟨rfl, by simp [Builtin.len_, SV.den, qq hu, goInt]⟩
 ·cases h
theorem qla (C : PCtx P tt J ℓ own n ρ kn get w) {c : Call} {s : SV} {o : Oper} (ho : o.op = .call c) (h : pureCall tt get c = some s) :
  s.wf n = true ∧ (execOp ρ o).run P w = .ok (.value (s.den ℓ)) w := by
 unfold pureCall at h
 split at h
 ·rename_i hc
  unfold pureLenOf at h
  split at h
  ·rename_i x t hx ht
   cases hg : get [] x with
   | none => rw [hg] at h; simp [pureLen] at h
   | some sx =>
    rw [hg] at h
    obtain ⟨hw, hρ⟩ := C.get0 _ _ hg
    have ha : c.args = #[x] := by rw [← Array.toArray_toList (xs := c.args), hx]
    have ht' : c.argTypes = #[t] := by rw [← Array.toArray_toList (xs := c.argTypes), ht]
    have := qmg (n := n) (ℓ := ℓ) (w := w) C.hT h o.type
    refine ⟨this.1, ?_⟩
    unfold execOp
    rw [ho]
    simp only [resolve, hc, ha, ht', pure_bind, invoke, builtin]
    simp only [List.map_toArray, List.map_cons, List.map_nil, hρ, Sem.run_bind, this.2, Result.andThen_ok, Sem.run_pure]
  ·cases h
 ·cases h
theorem qe5 : ∀ (xs : List Value) (cells : Array Value) (off : Nat), off + xs.length ≤ cells.size →
  (xs.toArray.zipIdx.foldl (fun cs (p : Value × Nat) => cs.setIfInBounds (off + p.2) p.1) cells) = (setRange cells.toList off xs).toArray := by
 have key : ∀ (xs : List Value) (cells : Array Value) (off j : Nat), off + j + xs.length ≤ cells.size →
   ((xs.zipIdx j).foldl (fun cs (p : Value × Nat) => cs.setIfInBounds (off + p.2) p.1) cells) = (setRange cells.toList (off + j) xs).toArray := by
  intro xs
  induction xs with
  | nil => intro cells off j _; simp [setRange]
  | cons x xs ih =>
   intro cells off j h
   simp only [List.length_cons] at h
   simp only [List.zipIdx_cons, List.foldl_cons]
   rw [ih _ _ _ (by simp; omega)]
   congr 1
   simp only [setRange, Array.toList_setIfInBounds, List.length_cons]
   apply List.ext_getElem?
   intro i
   simp only [List.getElem?_append, List.getElem?_take, List.length_take, List.getElem?_drop, List.length_set, List.getElem?_set, List.length_cons, Array.length_toList, List.getElem?_cons]
   have e1 : min (off + (j + 1)) cells.size = off + j + 1 := by omega
   have e2 : min (off + j) cells.size = off + j := by omega
   rw [e1, e2]
   by_cases h1 : i < off + j
   ·have : i < off + (j + 1) := by omega
    have : ¬ (off + j = i) := by omega
    simp [*, show i < off + j + 1 by omega]
   ·by_cases h2 : i = off + j
    ·subst h2
     simp [show off + j < off + j + 1 by omega, show off + j < off + (j + 1) by omega, show off + j < cells.size by omega]
    ·have h3 : ¬ i < off + j + 1 := by omega
     have h4 : ¬ i - (off + j) = 0 := by omega
     simp only [h1, h3, if_false]
     rw [show i - (off + j) - 1 = i - (off + j + 1) by omega]
     by_cases h5 : i - (off + j + 1) < xs.length
     ·have : i - (off + j) < xs.length + 1 := by omega
      simp [h4, h5, this]
     ·have : ¬ i - (off + j) < xs.length + 1 := by omega
      simp only [h4, h5, this, if_false]
      have e : ∀ q : Nat, off + (j + 1) + xs.length + q = off + j + (xs.length + 1) + q := by intro q; omega
      rw [show i - (off + j + 1) - xs.length = i - (off + j) - (xs.length + 1) by omega, e]
      have : ¬ off + j = off + j + (xs.length + 1) + (i - (off + j) - (xs.length + 1)) := by omega
      simp [this]
 intro xs cells off h
 have := key xs cells off 0 (by omega)
 simpa using this
theorem qgp (ℓ : List Base) (cells xs : List SV) (off : Nat) : qd ℓ (setRange cells off xs) = setRange (qd ℓ cells) off (qd ℓ xs) := by
 simp only [setRange, qar, qo]
 simp only [qdw, List.map_take, List.map_drop]
theorem qh7 {n : Nat} {cells xs : List SV} {off : Nat} (h : qr n cells = true) (h' : qr n xs = true) : qr n (setRange cells off xs) = true :=
 qhh (wfL_take h _) (qhh h' (wfL_drop h _))
theorem qc7 {α : Type} (cells xs : List α) (off : Nat) (h : off + xs.length ≤ cells.length) : (setRange cells off xs).length = cells.length := by
 simp [setRange]; omega
theorem cells_den (ℓ : List Base) (s : SV) (h : ∀ cs, s = .v (.agg cs) → False) : (s.den ℓ).cells = (qd ℓ (cellsOf s)).toArray := by
 cases s with
 | agg cs => simp [SV.den, Value.cells, cellsOf]
 | v x =>
  cases x with
  | agg cs => exact (h cs rfl).elim
  | _ => simp [SV.den, Value.cells, cellsOf, qd]
 | _ => simp [SV.den, Value.cells, cellsOf, qd]
theorem qaj (ℓ : List Base) {s : SV} (h : plainS s = true) : (s.den ℓ).cells = (qd ℓ (cellsOf s)).toArray :=
 cells_den ℓ s (by rintro cs rfl; simp [plainS] at h)
theorem qjj (C : PCtx P tt J ℓ own n ρ kn get w) {offs szs : List Nat} {fs : Array Field} (hoffs : fs.toList.map (·.offset) = offs) (hszs : szs.length = fs.size) (place : Nat → Option (Nat × Nat))
  (hplace : ∀ i off sz, offs[i]? = some off → szs[i]? = some sz → place i = some (off, sz)) :
  ∀ (parts : List (Nat × Operand)) (cells l : List SV), qr n cells = true → fillS offs szs cells get parts = some l →
   qr n l = true ∧ Instr.fill place (qd ℓ cells).toArray (parts.map fun p => (p.1, ρ p.2)) = some (qd ℓ l).toArray
 | [], cells, l, hw, h => by
  simp only [fillS, Option.some.injEq] at h
  subst h
  exact ⟨hw, rfl⟩
 | (i, x) :: rest, cells, l, hw, h => by
  simp only [fillS] at h
  split at h
  ·rename_i off sz s ho hs hx
   split at h
   ·rename_i hb
    simp only [Bool.and_eq_true] at hb
    obtain ⟨⟨hp, hb1⟩, hb2⟩ := hb
    have hb1 := Nat.eq_of_beq_eq_true hb1
    have hb2 := Nat.le_of_ble_eq_true hb2
    rw [qu] at h
    obtain ⟨hsw, hρ⟩ := C.get0 _ _ hx
    have hcw : qr n (cellsOf s) = true := by
     cases s <;> simp_all [cellsOf, qr, SV.wf]
    have ih := qjj C hoffs hszs place hplace rest _ l (qh7 hw hcw) h
    refine ⟨ih.1, ?_⟩
    simp only [List.map_cons, Instr.fill, hplace i off sz (by rw [← qab]; exact ho) (by rw [← qab]; exact hs), hρ]
    have hc : (s.den ℓ).cells = (qd ℓ (cellsOf s)).toArray := qaj ℓ hp
    have hsize : (s.den ℓ).cells.size = sz := by rw [hc]; simp [qo, hb1]
    have hlen : (qd ℓ cells).toArray.size = cells.length := by simp [qo]
    have hcond : ((decide ((s.den ℓ).cells.size ≠ sz)) || decide (off + (s.den ℓ).cells.size > (qd ℓ cells).toArray.size)) = false := by
     rw [hsize, hlen]
     simp
     omega
    rw [if_neg (by rw [hcond]; simp)]
    have hf := qe5 (qd ℓ (cellsOf s)) (qd ℓ cells).toArray off (by rw [hlen, qo, hb1]; exact hb2)
    rw [hc]
    rw [hf]
    rw [← qgp]
    exact ih.2
   ·cases h
  ·cases h
theorem qfg (ℓ : List Base) : ∀ (zs : List Value), qd ℓ (zs.map SV.v) = zs
 | [] => rfl
 | z :: zs => by simp [qd, SV.den, qfg ℓ zs]
theorem qg6 (n : Nat) : ∀ (zs : List Value), qr n (zs.map SV.v) = true
 | [] => rfl
 | z :: zs => by simp [qr, SV.wf, qg6 n zs]
theorem qlj : ∀ (l : List Field) (ss : List Nat), ss.length = l.length → (∀ (i : Nat) (f : Field) (m : Nat), l[i]? = some f → ss[i]? = some m → (sizeOf f.type).run P w = .ok m w) →
  (l.mapM fun f => (do pure (f.offset, ← sizeOf f.type) : Sem (Nat × Nat))).run P w = .ok ((l.map (·.offset)).zip ss) w
 | [], ss, hl, _ => by simp
 | f :: l, [], hl, _ => by simp at hl
 | f :: l, m :: ss, hl, h => by
  have h0 := h 0 f m rfl rfl
  have ih := qlj l ss (by simpa using hl) (fun i f' m' h1 h2 => h (i + 1) f' m' (by simpa using h1) (by simpa using h2))
  simp only [List.mapM_cons, Sem.run_bind, h0, Result.andThen_ok, Sem.run_pure, ih, List.map_cons, List.zip_cons_cons]
theorem qj7 (C : PCtx P tt J ℓ own n ρ kn get w) {t : TypeId} {parts : Array (Nat × Operand)} {s : SV} (h : pureBuild get parts (tt t) = some s) :
  s.wf n = true ∧ (Instr.build t (parts.map fun (i, x) => (i, ρ x))).run P w = .ok (s.den ℓ) w := by
 unfold pureBuild at h
 split at h
 ·rename_i offs szs zs ht
  rw [qu] at h
  split at h
  ·rename_i l hl
   cases h
   obtain ⟨_, _, hz, fs, hu, hoffs, hszs, hf⟩ := C.hT t _ ht
   have hplaces : (fs.mapM fun f => do pure (f.offset, ← sizeOf f.type) : Sem (Array (Nat × Nat))).run P w = .ok (offs.zip szs).toArray w := by
    rw [Array.mapM_eq_mapM_toList, Sem.run_map, qlj fs.toList szs (by simpa using hszs) (fun i f m h1 h2 => (hf i f m (by simpa using h1) h2).2 w), hoffs]
    rfl
   have hplace : ∀ (i off sz : Nat), offs[i]? = some off → szs[i]? = some sz → ((offs.zip szs).toArray[i]?) = some (off, sz) := by
    intro i off sz h1 h2
    simp [List.getElem?_zip_eq_some, h1, h2]
   have hfill := qjj C hoffs hszs _ hplace parts.toList (zs.map SV.v) l (qg6 n zs) hl
   rw [qfg] at hfill
   refine ⟨by simpa only [SV.wf] using hfill.1, ?_⟩
   unfold Instr.build
   simp only [Sem.run_bind, hz, Result.andThen_ok, qq hu, hplaces, Value.cells]
   simp only [Array.toList_map]
   rw [hfill.2]
   simp only [Sem.run_pure, SV.den]
  ·cases h
 ·cases h
theorem qaq (C : PCtx P tt J ℓ own n ρ kn get w) (o : Oper) {s : SV} (h : stepPure tt own kn get o.op = some s) :
  s.wf n = true ∧ (execOp ρ o).run P w = .ok (.value (s.den ℓ)) w := by
 unfold stepPure at h
 split at h
 ·rename_i x ho
  have := C.get0 _ _ h
  refine ⟨this.1, ?_⟩
  unfold execOp; rw [ho]; simp only [Sem.run_pure, this.2]
 ·rename_i x ho
  have := C.get0 _ _ h
  refine ⟨this.1, ?_⟩
  unfold execOp; rw [ho]; simp only [Sem.run_pure, this.2]
 ·rename_i g a b ho
  have := qk0 C h
  refine ⟨this.1, ?_⟩
  have h2 := this.2
  unfold execOp; rw [ho]
  simp only [Sem.run_bind, Sem.run_pure] at h2 ⊢
  generalize (asBool (ρ (.tmp g))).run P w = r at *
  cases r <;> simp only [Result.andThen_ok, Result.andThen_halt, Result.ok.injEq, reduceCtorEq] at h2 ⊢
  exact ⟨by rw [h2.1], h2.2⟩
 ·rename_i x ho
  exact qma C ho h
 ·rename_i t x ho
  have := qk7 C h
  refine ⟨this.1, ?_⟩
  unfold execOp; rw [ho]; simp only [Sem.run_bind, this.2, Result.andThen_ok, Sem.run_pure]
 ·rename_i t x f ho
  have := qi3 C h
  refine ⟨this.1, ?_⟩
  unfold execOp; rw [ho]; simp only [Sem.run_bind, this.2, Result.andThen_ok, Sem.run_pure]
 ·rename_i op t x y ty ho
  have := qm7 (t := t) C h
  refine ⟨this.1, ?_⟩
  have h2 := this.2
  unfold execOp; rw [ho]
  dsimp only
  rw [Sem.run_bind, h2]
  rfl
 ·rename_i op t x ho
  have := qof C h
  refine ⟨this.1, ?_⟩
  unfold execOp; rw [ho]; simp only [Sem.run_bind, this.2, Result.andThen_ok, Sem.run_pure]
 ·rename_i fn first caps ho
  have := qng C h
  refine ⟨this.1, ?_⟩
  unfold execOp; rw [ho]; simp only [Sem.run_bind, this.2, Result.andThen_ok, Sem.run_pure]
 ·rename_i x i ho
  have := qm1 C h
  refine ⟨this.1, ?_⟩
  unfold execOp; rw [ho]; simp only [Sem.run_bind, this.2, Result.andThen_ok, Sem.run_pure]
 ·rename_i t parts ho
  have := qj7 C h
  refine ⟨this.1, ?_⟩
  unfold execOp; rw [ho]; simp only [Sem.run_bind, this.2, Result.andThen_ok, Sem.run_pure]
 ·rename_i c ho
  exact qla C ho h
 ·cases h
end
end

section
open Go
abbrev Atoms := List (Nat × Bool)
abbrev Gen := List (Nat × SV × Atoms)
def gfind : Gen → Nat → Option (SV × Atoms)
 | [], _ => none
 | (n, s, a) :: r, t => match Nat.beq n t with
  | true => some (s, a)
  | false => gfind r t
def beqB : Bool → Bool → Bool
 | true, true => true
 | false, false => true
 | _, _ => false
def memAtom (g : Nat) (b : Bool) : Atoms → Bool
 | [] => false
 | (h, c) :: r => match Nat.beq h g && beqB c b with
  | true => true
  | false => memAtom g b r
def subAtoms : Atoms → Atoms → Bool
 | [], _ => true
 | (g, b) :: r, l => match memAtom g b l with
  | true => subAtoms r l
  | false => false
def constO : Value → Option SV
 | .agg cs => forceL (cs.toList.map SV.v) (fun l => some (.agg l))
 | x => some (.v x)
def getter (gen : Gen) (env : Env) (al : Atoms) : Getter := fun ex x => match x with
 | .tmp t => match gfind gen t with
  | some (s, tags) => match subAtoms tags (ex ++ al) with
   | true => some s
   | false => none
  | none => find env t
 | .const v => constO v
 | .global g => some (.v (.pointer (some ⟨g, 0, none⟩)))
 | .func f => some (.fn (.func f) [] [])
inductive Out where
 | ret (r : SV)
 | pan (v : SV)
def Out.ending (ℓ : List Base) : Out → Ending
 | .ret r => .returned (r.den ℓ)
 | .pan v => .panicked [{ v := v.den ℓ, recovered := false }]
def Out.wf (n : Nat) : Out → Bool
 | .ret r => r.wf n
 | .pan v => v.wf n
inductive Cal where
 | val (F : SV)
 | meth (r : SV) (name : String)
def Cal.wf (n : Nat) : Cal → Bool
 | .val F => F.wf n
 | .meth r _ => r.wf n
def Cal.sem (ℓ : List Base) (args : List SV) : Cal → Sem Next
 | .val F => do let d ← Deferred.ofValue (F.den ℓ) (qd ℓ args).toArray; invoke d.target d.args
 | .meth r name => invoke (.fn (.method name) #[]) (#[r.den ℓ] ++ (qd ℓ args).toArray)
def CallPost (J : Nat → Prop) (ℓ : List Base) (S : St) (w : World) (R : Out → St → Prop) : Ending → World → Prop := fun e w' =>
 ∃ ℓ' o S', e = o.ending ℓ' ∧ o.wf S'.own.length = true ∧ ℓ <+: ℓ' ∧ Ext (mutS ℓ S) w w' ∧ Good J ℓ' S' w' ∧ (∀ b ∈ mutS ℓ' S', b ∈ mutS ℓ S ∨ w.heap.size ≤ b) ∧ R o S'
def Fresh (J : Nat → Prop) (w : World) : Prop := ∀ b, w.heap.size ≤ b → J b
def fen (ro : Option Nat) : Fence := { fn := fun _ => True, depth := none, alive := false, round := ro }
def Runs (P : Program) : Next → World → (Ending → World → Prop) → Prop
 | .enter f ag, w, R => CallsIn (fen none) 0 P f ag w R
 | .round l f tmps assign body, w, R => RoundIn (fen none) 0 P l f tmps assign body w R
 | _, _, _ => False
theorem Runs.mono {P : Program} {w : World} {R R' : Ending → World → Prop} {nx : Next} (h : Runs P nx w R) (hr : ∀ e w', R e w' → R' e w') : Runs P nx w R' := by
 cases nx <;> first
  | exact CallsIn.mono h hr
  | exact RoundIn.mono h hr
  | exact h.elim
def Meets (P : Program) (c : Cal) (args : List SV) (S : St) (R : Out → St → Prop) : Prop :=
 ∀ J ℓ w, Good J ℓ S w → Fresh J w → ∃ nx, (c.sem ℓ args).run P w = .ok nx w ∧ Runs P nx w (CallPost J ℓ S w R)
structure AtSem (P : Program) (m : List Base → Sem Value) (S : St) (K : SV → St → Prop) : Prop where
 sem : ∀ J ℓ w, Good J ℓ S w → Fresh J w → ∃ r ℓ' S' w', (m ℓ).run P w = .ok (r.den ℓ') w' ∧ r.wf S'.own.length = true ∧ ℓ <+: ℓ' ∧ Ext (mutS ℓ S) w w' ∧ Good J ℓ' S' w' ∧ (∀ b ∈ mutS ℓ' S', b ∈ mutS ℓ S ∨ w.heap.size ≤ b) ∧ K r S'
def OwnKept (S S' : St) : Prop := ∀ i cs, cellsIn (nth S.own i) = some cs → cellsIn (nth S'.own i) = some cs
def mask : List Nat → List Blk → List Blk
 | [], own => own
 | i :: W, own => mask W (own.set i .dead)
def OwnKeptBut (W : List Nat) (S S' : St) : Prop := ∀ i cs, cellsIn (nth (mask W S.own) i) = some cs → cellsIn (nth (mask W S'.own) i) = some cs
structure AtPure (P : Program) (m : List Base → Sem Value) (S : St) (K : SV → St → Prop) : Prop where
 sem : ∀ J ℓ w, Good J ℓ S w → Fresh J w → ∃ r ℓ' S', (∀ w', (m ℓ).run P w' = .ok (r.den ℓ') w') ∧ r.wf S'.own.length = true ∧ ℓ <+: ℓ' ∧ Good J ℓ' S' w ∧ (∀ b ∈ mutS ℓ' S', b ∈ mutS ℓ S) ∧ OwnKept S S' ∧ K r S'
structure AtIf (b : Bool) (A B : Prop) : Prop where
 t : b = true → A
 f : b = false → B
structure AtGuard (b want : Bool) (A B : Prop) : Prop where
 t : b = want → A
 f : b = !want → B
def undefS : SV := .tup []
def allOne : List SV → Bool
 | [] => true
 | s :: r => match oneCell s with
  | true => allOne r
  | false => false
def TK.zeros : TK → List Value
 | .cell z => [z]
 | .slice _ _ => [.slice none 0 0]
 | .str => [.string ByteArray.empty]
 | .map _ _ => [.map none]
 | .struct _ _ zs => zs
 | .arr _ _ _ zs => zs
def setNth {α : Type} (l : List α) (i : Nat) (a : α) : List α := l.set i a
def mapOpt {α β : Type} (f : α → Option β) : Option α → Option (Option β)
 | none => some none
 | some a => match f a with
  | some b => some (some b)
  | none => none
def denO (ℓ : List Base) : Option SV → Option Value
 | none => none
 | some s => some (s.den ℓ)
def getParts (get : Getter) : List (Nat × Operand) → Option (List (Nat × SV))
 | [] => some []
 | (i, x) :: r => match get [] x with
  | some s => match getParts get r with
   | some l => some ((i, s) :: l)
   | none => none
  | none => none
def denParts (ℓ : List Base) : List (Nat × SV) → List (Nat × Value)
 | [] => []
 | (i, s) :: r => (i, s.den ℓ) :: denParts ℓ r
def putOwn (S : St) (own : List Blk) (K : St → Prop) : Prop := match S with
 | ⟨_, accs, reps⟩ => K ⟨own, accs, reps⟩
def addReps (S : St) (out : List (Value × D)) (K : St → Prop) : Prop := match S with
 | ⟨own, accs, reps⟩ => forceL (reps ++ out) (fun reps' => K ⟨own, accs, reps'⟩)
theorem qan (S : St) (own : List Blk) (K : St → Prop) : putOwn S own K = K ⟨own, S.accs, S.reps⟩ := rfl
theorem qbs (S : St) (out : List (Value × D)) (K : St → Prop) : addReps S out K = K ⟨S.own, S.accs, S.reps ++ out⟩ := by
 cases S; simp only [addReps, qu]
def vcRun (P : Program) (tt : Tab) (kn : Atoms) (get : Getter) (o : Oper) (S : St) (K : SV → St → Prop) (Kp : SV → St → Prop) : Prop :=
 match stepPure tt S.own kn get o.op with
 | some s => K s S
 | none => match o.op with
  | .box t x => match get [] x with
   | some s => match plainS s with
    | true => forceL (S.own ++ [.cells t (cellsOf s)]) (fun own => putOwn S own (fun S' => K (.loc S.own.length 0) S'))
    | false => False
   | none => False
  | .alloc t => match tt t with
   | some k => forceL (k.zeros.map SV.v) (fun z => forceL (S.own ++ [.cells t z]) (fun own => putOwn S own (fun S' => K (.loc S.own.length 0) S')))
   | none => False
  | .store t a x => match get [] a, get [] x with
   | some (.loc i off), some s => match nth S.own i, tt t with
    | some (.cells T cs), some k => match ((plainS s && allOne (cellsOf s)) && Nat.beq (cellsOf s).length k.zeros.length) && Nat.ble (off + (cellsOf s).length) cs.length with
     | true => forceL (setRange cs off (cellsOf s)) (fun cs' => forceL (setNth S.own i (.cells T cs')) (fun own => putOwn S own (fun S' => K undefS S')))
     | false => False
    | _, _ => False
   | some sa, some s => AtSem P (fun ℓ => do Instr.storeAt t (sa.den ℓ) (s.den ℓ); pure undef) S K
   | _, _ => False
  | .call c => match c.callee with
   | .value f => match get [] f, getAll get c.args.toList with
    | some F, some args => Meets P (.val F) args S (fun o S' => match o with
     | .ret r => K r S'
     | .pan v => Kp v S')
    | _, _ => False
   | .invoke r m => match get [] r, getAll get c.args.toList with
    | some F, some args => Meets P (.meth F m) args S (fun o S' => match o with
     | .ret r => K r S'
     | .pan v => Kp v S')
    | _, _ => False
   | .builtin .append => match getAll get c.args.toList with
    | some args => AtSem P (fun ℓ => Builtin.append_ c.argTypes o.type (qd ℓ args).toArray) S K
    | none => False
   | .builtin .min => match getAll get c.args.toList with
    | some args => AtPure P (fun ℓ => Builtin.min_ c.argTypes o.type (qd ℓ args).toArray) S K
    | none => False
   | .builtin .max => match getAll get c.args.toList with
    | some args => AtPure P (fun ℓ => Builtin.max_ c.argTypes o.type (qd ℓ args).toArray) S K
    | none => False
   | .builtin .len => match getAll get c.args.toList with
    | some args => AtSem P (fun ℓ => Builtin.len_ c.argTypes o.type (qd ℓ args).toArray) S K
    | none => False
   | .builtin .cap => match getAll get c.args.toList with
    | some args => AtPure P (fun ℓ => Builtin.cap_ c.argTypes o.type (qd ℓ args).toArray) S K
    | none => False
   | .builtin .copy => match getAll get c.args.toList with
    | some args => AtSem P (fun ℓ => Builtin.copy_ c.argTypes o.type (qd ℓ args).toArray) S K
    | none => False
   | .builtin .delete => match getAll get c.args.toList with
    | some args => AtSem P (fun ℓ => Builtin.delete_ c.argTypes o.type (qd ℓ args).toArray) S K
    | none => False
   | .builtin .clear => match getAll get c.args.toList with
    | some args => AtSem P (fun ℓ => Builtin.clear_ c.argTypes o.type (qd ℓ args).toArray) S K
    | none => False
   | _ => False
  | .indexAddr t x i => match get [] x, get [] i with
   | some sx, some si => AtPure P (fun ℓ => Instr.indexAt t (sx.den ℓ) (si.den ℓ)) S K
   | _, _ => False
  | .index t x i => match get [] x, get [] i with
   | some sx, some si => AtPure P (fun ℓ => Instr.index t (sx.den ℓ) (si.den ℓ)) S K
   | _, _ => False
  | .field t x f => match get [] x with
   | some sx => AtPure P (fun ℓ => Instr.field t (sx.den ℓ) f) S K
   | none => False
  | .fieldAddr t x f => match get [] x with
   | some sx => AtPure P (fun ℓ => Instr.fieldAt t (sx.den ℓ) f) S K
   | none => False
  | .load t x => match get [] x with
   | some sx => AtSem P (fun ℓ => Instr.loadAt t (sx.den ℓ)) S K
   | none => False
  | .slice t x lo hi mx => match get [] x, mapOpt (get []) lo, mapOpt (get []) hi, mapOpt (get []) mx with
   | some sx, some sl, some sh, some sm => AtPure P (fun ℓ => Instr.sliceAt t (sx.den ℓ) (denO ℓ sl) (denO ℓ sh) (denO ℓ sm)) S K
   | _, _, _, _ => False
  | .buildSlice t len parts => match getParts get parts.toList with
   | some l => AtSem P (fun ℓ => Instr.buildSlice t len (denParts ℓ l).toArray) S K
   | none => False
  | .makeSlice t l c => match get [] l, get [] c with
   | some sl, some sc => AtSem P (fun ℓ => Instr.makeSlice t (sl.den ℓ) (sc.den ℓ)) S K
   | _, _ => False
  | .makeMap t r => match mapOpt (get []) r with
   | some sr => AtSem P (fun ℓ => Instr.makeMap t (denO ℓ sr)) S K
   | none => False
  | .mapUpdate t m k x => match get [] m, get [] k, get [] x with
   | some sm, some sk, some sx => AtSem P (fun ℓ => do Instr.mapUpdate t (sm.den ℓ) (sk.den ℓ) (sx.den ℓ); pure undef) S K
   | _, _, _ => False
  | .insert t m k x => match get [] m, get [] k, get [] x with
   | some sm, some sk, some sx => AtSem P (fun ℓ => do Instr.mapUpdate t (sm.den ℓ) (sk.den ℓ) (sx.den ℓ); pure undef) S K
   | _, _, _ => False
  | .lookup t x ix ok => match get [] x, get [] ix with
   | some sx, some si => AtSem P (fun ℓ => Instr.lookup t (sx.den ℓ) (si.den ℓ) ok) S K
   | _, _ => False
  | .mapEntry t m k => match get [] m, get [] k with
   | some sm, some sk => AtSem P (fun ℓ => Instr.mapEntry t (sm.den ℓ) (sk.den ℓ)) S K
   | _, _ => False
  | .entryStore t m k x => match get [] m, get [] k, get [] x with
   | some sm, some sk, some sx => AtSem P (fun ℓ => do Instr.entryStore t (sm.den ℓ) (sk.den ℓ) (sx.den ℓ); pure undef) S K
   | _, _, _ => False
  | .range t x => match get [] x with
   | some sx => AtSem P (fun ℓ => Instr.range t (sx.den ℓ)) S K
   | none => False
  | .next it isStr => match get [] it with
   | some sx => AtSem P (fun ℓ => Instr.next (sx.den ℓ) isStr o.type) S K
   | none => False
  | .entry it => match get [] it with
   | some sx => AtSem P (fun ℓ => Instr.entry (sx.den ℓ)) S K
   | none => False
  | .binOp op t x y _ => match get [] x, get [] y with
   | some sx, some sy => AtPure P (fun ℓ => do eqGuard op t x y (sx.den ℓ) (sy.den ℓ); binOp op t (sx.den ℓ) (sy.den ℓ)) S K
   | _, _ => False
  | .unOp op _ x => match get [] x with
   | some sx => AtPure P (fun ℓ => Op.unary op (sx.den ℓ)) S K
   | none => False
  | .convert src dst x => match get [] x with
   | some sx => AtSem P (fun ℓ => convert src dst (sx.den ℓ)) S K
   | none => False
  | .makeInterface t x => match get [] x with
   | some sx => AtPure P (fun ℓ => Instr.makeInterface t (sx.den ℓ)) S K
   | none => False
  | .typeAssert x t a ok => match get [] x with
   | some sx => AtPure P (fun ℓ => Instr.typeAssert (sx.den ℓ) t a ok) S K
   | none => False
  | .build t parts => match getParts get parts.toList with
   | some l => AtPure P (fun ℓ => Instr.build t (denParts ℓ l).toArray) S K
   | none => False
  | .panic x => match get [] x with
   | some (.ifc t s) => Kp (.ifc t s) S
   | _ => False
  | _ => False
def freshG (d : Nat) : Gen → Bool
 | [] => true
 | (n, _, tags) :: r => match Nat.beq n d || tags.any (fun a => Nat.beq a.1 d) with
  | true => false
  | false => freshG d r
def freshK (d : Nat) : Atoms → Bool
 | [] => true
 | (n, _) :: r => match Nat.beq n d with
  | true => false
  | false => freshK d r
def putK (N : Nat) (dst : Option Nat) (s : SV) (kn : Atoms) (gen : Gen) (env : Env) (K : Env → Prop) : Prop :=
 match dst with
 | none => K env
 | some d => match (Nat.blt d N && freshG d gen) && freshK d kn with
  | true => K ((d, s) :: env)
  | false => False
def putG (N : Nat) (dst : Option Nat) (s : SV) (tags : Atoms) (kn : Atoms) (gen : Gen) (env : Env) (K : Gen → Prop) : Prop :=
 match dst with
 | none => K gen
 | some d => match (Nat.blt d N && freshG d gen) && (freshK d kn && freshK d tags) with
  | true => match find env d with
   | none => K ((d, s, tags) :: gen)
   | some _ => False
  | false => False
def guardSlot (ops : Array Oper) (j : Nat) : Option Nat :=
 match nth ops.toList j with
 | some o => o.dst
 | none => none
def gfindE (gen : Gen) (env : Env) (g : Nat) : Option (SV × Atoms) :=
 match gfind gen g with
 | some r => some r
 | none => match find env g with
  | some s => some (s, [])
  | none => none
def flipB : Bool → Bool
 | true => false
 | false => true
abbrev VT := Atoms → Prop
def tagsNil (A : VT) : VT := fun kn => A kn
def tagsOne (gen : Gen) (env : Env) (B : VT) (a : Nat × Bool) (_ : Atoms) (r : VT) : VT := fun kn => match knownOf kn a.1 with
 | some b => match beqB b a.2 with
  | true => r kn
  | false => B kn
 | none => match gfindE gen env a.1 with
  | some (.v (.bool b), tg) => match subAtoms tg kn with
   | true => AtGuard b a.2 (r ((a.1, a.2) :: kn)) (B ((a.1, flipB a.2) :: kn))
   | false => False
  | _ => False
noncomputable def tagsK (gen : Gen) (env : Env) (A B : VT) (l : Atoms) : VT :=
 List.rec (motive := fun _ => VT) (tagsNil A) (tagsOne gen env B) l
theorem tagsK_cons (gen : Gen) (env : Env) (A B : VT) (a : Nat × Bool) (r : Atoms) (kn : Atoms) : tagsK gen env A B (a :: r) kn = tagsOne gen env B a r (tagsK gen env A B r) kn := rfl
abbrev VO := Atoms → Gen → Env → St → (Env → St → Prop) → (SV → St → Prop) → Prop
def vcNil : VO := fun _ _ env S K _ => K env S
noncomputable def vcOp (P : Program) (tt : Tab) (N : Nat) (ops : Array Oper) (o : Oper) (_ : List Oper) (r : VO) : VO := fun kn gen env S K Kp => match o.guard with
  | none => vcRun P tt kn (getter gen env kn) o S (fun s S' => putK N o.dst s kn gen env (fun env' => r kn gen env' S' K Kp)) Kp
  | some (j, want) => match guardSlot ops j with
   | none => False
   | some g => match knownOf kn g with
    | some b => match beqB b want with
     | true => vcRun P tt kn (getter gen env kn) o S (fun s S' => putK N o.dst s kn gen env (fun env' => r kn gen env' S' K Kp)) Kp
     | false => putK N o.dst undefS kn gen env (fun env' => r kn gen env' S K Kp)
    | none => match gfindE gen env g with
     | some (.v (.bool _), tg) => match stepPure tt S.own kn (getter gen env (((g, want) :: tg) ++ kn)) o.op with
      | some s => putG N o.dst s ((g, want) :: tg) kn gen env (fun gen' => r kn gen' env S K Kp)
      | none => tagsK gen env
        (fun kn => vcRun P tt kn (getter gen env kn) o S (fun s S' => putK N o.dst s kn gen env (fun env' => r kn gen env' S' K Kp)) Kp)
        (fun kn => putK N o.dst undefS kn gen env (fun env' => r kn gen env' S K Kp)) ((g, want) :: tg).reverse kn
     | some (.tup [], _) => putK N o.dst undefS kn gen env (fun env' => r kn gen env' S K Kp)
     | _ => False
noncomputable def vcOps (P : Program) (tt : Tab) (N : Nat) (ops : Array Oper) (l : List Oper) : VO :=
 List.rec (motive := fun _ => VO) vcNil (vcOp P tt N ops) l
theorem vcOps_cons (P : Program) (tt : Tab) (N : Nat) (ops : Array Oper) (o : Oper) (rest : List Oper) : vcOps P tt N ops (o :: rest) = vcOp P tt N ops o rest (vcOps P tt N ops rest) := rfl
inductive X where
 | norm
 | exit (id : Nat)
 | ret
 | pan (v : SV)
def envLe (env : Env) : Env → Prop
 | [] => True
 | (t, s) :: r => find env t = some s ∧ envLe env r
def StLe (S S' : St) : Prop :=
 S'.own.length ≤ S.own.length ∧ ∀ J ℓ w, Good J ℓ S w → Good J (ℓ.take S'.own.length) S' w ∧ ∀ b ∈ mutS (ℓ.take S'.own.length) S', b ∈ mutS ℓ S
def seqK (F : Env → St → Prop) (K : X → Env → St → Prop) : X → Env → St → Prop
 | .norm, env, S => F env S
 | .exit id, env, S => K (.exit id) env S
 | .ret, env, S => K .ret env S
 | .pan v, env, S => K (.pan v) env S
def blkK (id : Nat) (K : X → Env → St → Prop) : X → Env → St → Prop
 | .norm, env, S => K .norm env S
 | .exit id', env, S => match Nat.beq id' id with
  | true => K .norm env S
  | false => K (.exit id') env S
 | .ret, env, S => K .ret env S
 | .pan v, env, S => K (.pan v) env S
def rixD (ix : List Nat) : Nat → Nat := fun i => ix.getD i 0
def StLeR (ix : List Nat) (S S' : St) : Prop :=
 ix.length = S'.own.length ∧ ∀ J ℓ w, Good J ℓ S w → Good J (ix.map (fun i => ℓ.getD i default)) S' w ∧ ∀ b ∈ mutS (ix.map (fun i => ℓ.getD i default)) S', b ∈ mutS ℓ S
def firstN : Nat → Nat → List Nat → Bool
 | 0, _, _ => true
 | m + 1, k, i :: r => match Nat.beq i k with
  | true => firstN m (k + 1) r
  | false => false
 | _ + 1, _, [] => false
structure AtLoop (m : Nat) (body : (X → Env → St → Prop) → Env → St → Prop) (K : X → Env → St → Prop) (env : Env) (S : St) : Prop where any ::
 ex : (∃ (ι : Type) (inv : ι → Env) (st : ι → St) (Φ : ι → Prop) (μ : ι → Nat) (x0 : ι), Φ x0 ∧ envLe env (inv x0) ∧ StLe S (st x0) ∧
  (∀ x, Φ x → envWf (st x).own.length (inv x) = true ∧ Nat.ble m (st x).own.length = true) ∧
  ∀ x, Φ x → body (seqK (fun env' S' => ∃ x', Φ x' ∧ μ x' < μ x ∧ envLe env' (inv x') ∧ StLe S' (st x')) K) (inv x) (st x)) ∨
  (∃ (ι : Type) (inv : ι → Env) (st : ι → St) (Φ : ι → Prop) (μ : ι → Nat) (x0 : ι), Φ x0 ∧ envLe env (inv x0) ∧ StLe S (st x0) ∧
  (∀ x, Φ x → envWf (st x).own.length (inv x) = true ∧ Nat.ble m (st x).own.length = true) ∧
  ∀ x, Φ x → body (seqK (fun env' S' => ∃ x' ix, Φ x' ∧ μ x' < μ x ∧ envLe env' (envRen (rixD ix) (inv x')) ∧ StLeR ix S' (st x') ∧ firstN m 0 ix = true) K) (inv x) (st x))
theorem AtLoop.mk {m : Nat} {body : (X → Env → St → Prop) → Env → St → Prop} {K : X → Env → St → Prop} {env : Env} {S : St} (h : ∃ (ι : Type) (inv : ι → Env) (st : ι → St) (Φ : ι → Prop) (μ : ι → Nat) (x0 : ι), Φ x0 ∧ envLe env (inv x0) ∧ StLe S (st x0) ∧
  (∀ x, Φ x → envWf (st x).own.length (inv x) = true ∧ Nat.ble m (st x).own.length = true) ∧
  ∀ x, Φ x → body (seqK (fun env' S' => ∃ x', Φ x' ∧ μ x' < μ x ∧ envLe env' (inv x') ∧ StLe S' (st x')) K) (inv x) (st x)) : AtLoop m body K env S := .any (.inl h)
def inRec (rx : Option Nat) (own : List Blk) : Bool :=
 match rx with
 | none => true
 | some i => match nth own i with
  | some (.lp _) => true
  | _ => false
def afterLoop (n : Nat) (K : X → Env → St → Prop) (env : Env) (S : St) : Prop :=
 match nth S.own n with
 | some (.lp x) => match x.state with
  | .busy => False
  | _ => forceL (setNth S.own n (.lp ⟨x.N, x.env, x.ps, x.assign, x.body, .exhausted, x.pend, x.fn⟩)) (fun own => putOwn S own (fun S' => match x.pend with
   | none => K .norm env S'
   | some .ret => K .ret env S'
   | some (.exit id) => K (.exit id) env S'
   | _ => False))
 | _ => False
def Enters (P : Program) (F : SV) : Prop := ∃ f first caps, F = .fn (.func f) first caps ∧ ∀ ag w, (callFunc f ag).run P w = .ok (.enter f ag) w
def exF (P : Program) : FuncId → Prop := fun f => (P.funcs[f]?).isSome = true
structure AtRange (P : Program) (N : Nat) (rx : Option Nat) (F : SV) (ps : Array Nat) (assign body : Code) (K : X → Env → St → Prop) (env : Env) (S : St) : Prop where
 ex : ∃ env', envLe env env' ∧ envWf S.own.length env' = true ∧ inRec rx S.own = true ∧ Enters P F ∧
  Meets P (.val F) [.yld S.own.length] ⟨S.own ++ [.lp ⟨N, env', ps, assign, body, .ready, none, exF P⟩], S.accs, S.reps⟩ (fun o S' => match o with
   | .ret _ => afterLoop S.own.length K env S'
   | .pan v => K (.pan v) [] S')
def beginS (i : Nat) (S : St) (K : St → Prop) : Prop :=
 match nth S.own i with
 | some (.lp x) => match x.state with
  | .ready => forceL (setNth S.own i (.lp ⟨x.N, x.env, x.ps, x.assign, x.body, .busy, x.pend, x.fn⟩)) (fun own => putOwn S own K)
  | _ => False
 | _ => False
def stOf : Option Code → LoopState
 | none => .ready
 | some _ => .done
def endS (i : Nat) (j : Option Code) (S : St) (K : St → Prop) : Prop :=
 match nth S.own i with
 | some (.lp x) => forceL (setNth S.own i (.lp ⟨x.N, x.env, x.ps, x.assign, x.body, stOf j, j, x.fn⟩)) (fun own => putOwn S own K)
 | _ => False
def bindPs : List Nat → List SV → Env → Env
 | p :: ps, s :: ss, env => bindPs ps ss ((p, s) :: env)
 | _, _, env => env
inductive DTree where
 | leaf (ps : List Nat)
 | node (ps : List Nat) (cs : List (Nat × DTree))
def isPureAt : Op → Bool
 | .call { callee := .builtin .min, .. } => true
 | .call { callee := .builtin .max, .. } => true
 | .call { callee := .builtin .cap, .. } => true
 | .indexAddr .. => true
 | .index .. => true
 | .field .. => true
 | .fieldAddr .. => true
 | .slice .. => true
 | .binOp .. => true
 | .unOp .. => true
 | .makeInterface .. => true
 | .typeAssert .. => true
 | .build .. => true
 | _ => false
abbrev VP := Atoms → Gen → Env → St → (Atoms → Gen → Env → St → Prop) → Prop
def vcPnil : VP := fun kn gen env S K => K kn gen env S
def vcPdo (P : Program) (tt : Tab) (N : Nat) (W : List Nat) (o : Oper) (r : VP) : VP := fun kn gen env S K => match stepPure tt (mask W S.own) kn (getter gen env kn) o.op with
 | some s => putK N o.dst s kn gen env (fun env' => r kn gen env' S K)
 | none => match isPureAt o.op with
  | true => vcRun P tt kn (getter gen env kn) o S (fun s S' => putK N o.dst s kn gen env (fun env' => r kn gen env' S' K)) (fun _ _ => False)
  | false => False
def vcPone (P : Program) (tt : Tab) (N : Nat) (ops : Array Oper) (W : List Nat) (p : Nat) (_ : List Nat) (r : VP) : VP := fun kn gen env S K => match nth ops.toList p with
  | none => False
  | some o => match o.guard with
   | none => vcPdo P tt N W o r kn gen env S K
   | some (j, want) => match guardSlot ops j with
    | none => False
    | some g => match knownOf kn g with
     | some b => match beqB b want with
      | true => vcPdo P tt N W o r kn gen env S K
      | false => putK N o.dst undefS kn gen env (fun env' => r kn gen env' S K)
     | none => match gfindE gen env g with
      | some (.v (.bool b), tg) => match stepPure tt (mask W S.own) kn (getter gen env (((g, want) :: tg) ++ kn)) o.op with
       | some s => putG N o.dst s ((g, want) :: tg) kn gen env (fun gen' => r kn gen' env S K)
       | none => match tg with
        | [] => AtGuard b want (vcPdo P tt N W o r ((g, want) :: kn) gen env S K) (putK N o.dst undefS ((g, flipB want) :: kn) gen env (fun env' => r ((g, flipB want) :: kn) gen env' S K))
        | x :: tg' => tagsK gen env (fun kn => vcPdo P tt N W o r kn gen env S K) (fun kn => putK N o.dst undefS kn gen env (fun env' => r kn gen env' S K)) ((g, want) :: x :: tg').reverse kn
      | _ => False
noncomputable def vcPs (P : Program) (tt : Tab) (N : Nat) (ops : Array Oper) (W : List Nat) (l : List Nat) : VP :=
 List.rec (motive := fun _ => VP) vcPnil (vcPone P tt N ops W) l
theorem vcPs_cons (P : Program) (tt : Tab) (N : Nat) (ops : Array Oper) (W : List Nat) (p : Nat) (ps : List Nat) : vcPs P tt N ops W (p :: ps) = vcPone P tt N ops W p ps (vcPs P tt N ops W ps) := rfl
def memN (n : Nat) : List Nat → Bool
 | [] => false
 | m :: r => match Nat.beq m n with
  | true => true
  | false => memN n r
def keepsIf (U W : List Nat) (e : Nat) (S S' : St) (A : Prop) : Prop := match memN e U with
 | true => A
 | false => OwnKeptBut W S S' ∧ A
def vcEvDo (P : Program) (tt : Tab) (N : Nat) (U W : List Nat) (e : Nat) (o : Oper) (kn : Atoms) (gen : Gen) (env : Env) (S : St) (KT : Atoms → Env → St → Prop) (Kp : SV → St → Prop) : Prop :=
 vcRun P tt kn (getter gen env kn) o S (fun s S' => keepsIf U W e S S' (putK N o.dst s kn gen env (fun env' => KT kn env' S'))) Kp
def vcEv (P : Program) (tt : Tab) (N : Nat) (ops : Array Oper) (U W : List Nat) (e : Nat) (o : Oper) (kn : Atoms) (gen : Gen) (env : Env) (S : St) (KT : Atoms → Env → St → Prop) (Kp : SV → St → Prop) : Prop := match o.guard with
 | none => vcEvDo P tt N U W e o kn gen env S KT Kp
 | some (j, want) => match guardSlot ops j with
  | none => False
  | some g => match knownOf kn g with
   | some b => match beqB b want with
    | true => vcEvDo P tt N U W e o kn gen env S KT Kp
    | false => putK N o.dst undefS kn gen env (fun env' => KT kn env' S)
   | none => match find env g with
    | some (.v (.bool b)) => AtGuard b want (vcEvDo P tt N U W e o ((g, want) :: kn) gen env S KT Kp) (putK N o.dst undefS ((g, flipB want) :: kn) gen env (fun env' => KT ((g, flipB want) :: kn) env' S))
    | _ => False
mutual
noncomputable def vcTree (P : Program) (tt : Tab) (N : Nat) (ops : Array Oper) (U W : List Nat) : DTree → Atoms → Gen → Env → St → (Env → St → Prop) → (SV → St → Prop) → Prop
 | .leaf ps, kn, gen, env, S, K, _ => vcPs P tt N ops W ps kn gen env S (fun _ _ env' S' => K env' S')
 | .node ps cs, kn, gen, env, S, K, Kp => vcPs P tt N ops W ps kn gen env S (fun kn' gen' env' S' => vcTrees P tt N ops U W cs kn' gen' env' S' K Kp)
noncomputable def vcTrees (P : Program) (tt : Tab) (N : Nat) (ops : Array Oper) (U W : List Nat) : List (Nat × DTree) → Atoms → Gen → Env → St → (Env → St → Prop) → (SV → St → Prop) → Prop
 | [], _, _, _, _, _, _ => True
 | [(e, t)], kn, gen, env, S, K, Kp => match nth ops.toList e with
  | none => False
  | some o => vcEv P tt N ops U W e o kn gen env S (fun kn' env' S' => vcTree P tt N ops U W t kn' gen env' S' K Kp) Kp
 | (e, t) :: r, kn, gen, env, S, K, Kp => (match nth ops.toList e with
  | none => False
  | some o => vcEv P tt N ops U W e o kn gen env S (fun kn' env' S' => vcTree P tt N ops U W t kn' gen env' S' K Kp) Kp) ∧ vcTrees P tt N ops U W r kn gen env S K Kp
 end
abbrev Draws := Nat → Option (DTree × List Nat × List Nat)
structure AtCut (m : Nat) (A : (Env → St → Prop) → Prop) (B : Env → St → Prop) : Prop where any ::
 ex : (∃ (ι : Type) (inv : ι → Env) (st : ι → St) (Φ : ι → Prop), (∀ x, Φ x → envWf (st x).own.length (inv x) = true ∧ Nat.ble m (st x).own.length = true) ∧
  A (fun env S => ∃ x, Φ x ∧ envLe env (inv x) ∧ StLe S (st x)) ∧ ∀ x, Φ x → B (inv x) (st x)) ∨
  (∃ (ι : Type) (inv : ι → Env) (st : ι → St) (Φ : ι → Prop), (∀ x, Φ x → envWf (st x).own.length (inv x) = true ∧ Nat.ble m (st x).own.length = true) ∧
  A (fun env S => ∃ x ix, Φ x ∧ envLe env (envRen (rixD ix) (inv x)) ∧ StLeR ix S (st x) ∧ firstN m 0 ix = true) ∧ ∀ x, Φ x → B (inv x) (st x))
theorem AtCut.mk {m : Nat} {A : (Env → St → Prop) → Prop} {B : Env → St → Prop} (h : ∃ (ι : Type) (inv : ι → Env) (st : ι → St) (Φ : ι → Prop), (∀ x, Φ x → envWf (st x).own.length (inv x) = true ∧ Nat.ble m (st x).own.length = true) ∧
  A (fun env S => ∃ x, Φ x ∧ envLe env (inv x) ∧ StLe S (st x)) ∧ ∀ x, Φ x → B (inv x) (st x)) : AtCut m A B := .any (.inl h)
def leadId : Code → Option Nat
 | .region id _ _ => some id
 | .seq a _ => leadId a
 | .block _ body => leadId body
 | .loop body => leadId body
 | _ => none
def dropN (n : Nat) : List Nat → List Nat
 | [] => []
 | m :: r => match Nat.beq m n with
  | true => r
  | false => m :: dropN n r
def isCut (a : Code) : List Nat → Bool
 | [] => false
 | cuts => match leadId a with
  | some id => memN id cuts
  | none => false
def cutsIn (a : Code) (cuts : List Nat) : List Nat :=
 match leadId a with
 | some id => dropN id cuts
 | none => cuts
abbrev VC := List Nat → (X → Env → St → Prop) → Env → St → Prop
def vcNorm : VC := fun _ K env S => K .norm env S
noncomputable def vcRegion (P : Program) (tt : Tab) (N : Nat) (dt : Draws) (id : Nat) (ops : Array Oper) (draw : Bool) : VC := fun _ K env S => match draw with
 | false => vcOps P tt N ops ops.toList [] [] env S (fun env S => K .norm env S) (fun v S => K (.pan v) [] S)
 | true => match dt id with
  | some (t, U, W) => vcTree P tt N ops U W t [] [] env S (fun env S => K .norm env S) (fun v S => K (.pan v) [] S)
  | none => False
def vcSeq (m : Nat) (a _b : Code) (va vb : VC) : VC := fun cuts K env S => match isCut a cuts with
 | true => AtCut m (fun K' => va (cutsIn a cuts) (seqK K' K) env S) (fun env S => vb cuts K env S)
 | false => va cuts (seqK (fun env S => vb cuts K env S) K) env S
def vcCond (c : Operand) (_t _e : Code) (vt ve : VC) : VC := fun cuts K env S => match getter [] env [] [] c with
 | some (.v (.bool b)) => AtIf b (vt cuts K env S) (ve cuts K env S)
 | _ => False
def vcBlock (id : Nat) (_ : Code) (vb : VC) : VC := fun cuts K env S => vb cuts (blkK id K) env S
def vcLoop (m : Nat) (_ : Code) (vb : VC) : VC := fun cuts K env S => AtLoop m (fun K env S => vb cuts K env S) K env S
def vcRangeF (P : Program) (N : Nat) (rx : Option Nat) (g : Operand) (ps : Array Nat) (assign body : Code) (_ _ : VC) : VC := fun _ K env S => match getter [] env [] [] g with
 | some F => AtRange P N rx F ps assign body K env S
 | none => False
def vcExit (id : Nat) : VC := fun _ K env S => K (.exit id) env S
def vcScope (_ : Code) (vb : VC) : VC := vb
def vcLabel (_ : Nat) : VC := vcNorm
def vcGoto (_ : Nat) : VC := fun _ _ _ _ => False
def vcReturn : VC := fun _ K env S => K .ret env S
def vcRefuse (_ : String) : VC := fun _ _ _ _ => False
noncomputable def vcC (P : Program) (tt : Tab) (N m : Nat) (rx : Option Nat) (dt : Draws) (c : Code) : VC :=
 Code.rec (motive := fun _ => VC) vcNorm (vcRegion P tt N dt) (vcSeq m) vcCond vcBlock (vcLoop m) (vcRangeF P N rx) vcExit vcScope vcLabel vcGoto vcReturn vcRefuse c
section
variable (P : Program) (tt : Tab) (N m : Nat) (rx : Option Nat) (dt : Draws)
theorem vcC_region (id : Nat) (ops : Array Oper) (draw : Bool) : vcC P tt N m rx dt (.region id ops draw) = vcRegion P tt N dt id ops draw := rfl
theorem vcC_seq (a b : Code) : vcC P tt N m rx dt (.seq a b) = vcSeq m a b (vcC P tt N m rx dt a) (vcC P tt N m rx dt b) := rfl
theorem vcC_cond (c : Operand) (t e : Code) : vcC P tt N m rx dt (.cond c t e) = vcCond c t e (vcC P tt N m rx dt t) (vcC P tt N m rx dt e) := rfl
theorem vcC_block (id : Nat) (b : Code) : vcC P tt N m rx dt (.block id b) = vcBlock id b (vcC P tt N m rx dt b) := rfl
theorem vcC_loop (b : Code) : vcC P tt N m rx dt (.loop b) = vcLoop m b (vcC P tt N m rx dt b) := rfl
theorem vcC_rangeF (g : Operand) (ps : Array Nat) (a b : Code) : vcC P tt N m rx dt (.rangeFunc g ps a b) = vcRangeF P N rx g ps a b (vcC P tt N m rx dt a) (vcC P tt N m rx dt b) := rfl
theorem vcC_scope (b : Code) : vcC P tt N m rx dt (.scope b) = vcC P tt N m rx dt b := rfl
end
structure AtRet (m : Nat) (o : Out) (S : St) (R : Out → St → Prop) : Prop where
 ex : ∃ S', StLe S S' ∧ m ≤ S'.own.length ∧ o.wf S'.own.length = true ∧ R o S'
def resS (tt : Tab) (own : List Blk) (env : Env) : List ResultVar → Option (List SV)
 | [] => some []
 | .tmp t :: r => match find env t with
  | some s => match resS tt own env r with
   | some l => some (s :: l)
   | none => none
  | none => none
 | .cell ad t :: r => match pureLoad tt own t (find env ad) with
  | some s => match resS tt own env r with
   | some l => some (s :: l)
   | none => none
  | none => none
def resOf (tt : Tab) (own : List Blk) (env : Env) (rs : List ResultVar) : Option SV :=
 match resS tt own env rs with
 | some [s] => some s
 | some l => some (.tup l)
 | none => none
def vcEnd (tt : Tab) (m : Nat) (rs : List ResultVar) (R : Out → St → Prop) : X → Env → St → Prop
 | .norm, env, S => match resOf tt S.own env rs with
  | some r => AtRet m (.ret r) S R
  | none => False
 | .ret, env, S => match resOf tt S.own env rs with
  | some r => AtRet m (.ret r) S R
  | none => False
 | .pan v, _, S => AtRet m (.pan v) S R
 | .exit _, _, _ => False
def roundEnd (m i : Nat) (R : Out → St → Prop) : X → Env → St → Prop
 | .norm, _, S => endS i none S (fun S' => AtRet m (.ret (.v (.bool true))) S' R)
 | .ret, _, S => endS i (some .ret) S (fun S' => AtRet m (.ret (.v (.bool false))) S' R)
 | .exit id, _, S => endS i (some (.exit id)) S (fun S' => AtRet m (.ret (.v (.bool false))) S' R)
 | .pan v, _, S => AtRet m (.pan v) S R
def argEnv : Nat → List SV → Env
 | _, [] => []
 | i, s :: r => (i, s) :: argEnv (i + 1) r
end

section
open Go
theorem mem_mutL {x : Nat} : ∀ {ℓ : List Base} {own : List Blk}, x ∈ mutL ℓ own ↔ ∃ (i : Nat) (b : Base) (k : Blk), ℓ[i]? = some b ∧ own[i]? = some k ∧ k.mut = true ∧ b.block = x
 | [], own => by simp [mutL]
 | b :: ℓ, [] => by simp [mutL]
 | b :: ℓ, k :: ks => by
  simp only [mutL, List.mem_append, mem_mutL (ℓ := ℓ) (own := ks)]
  constructor
  ·rintro (h | ⟨i, b', k', h1, h2, h3, h4⟩)
   ·split at h
    ·rename_i hk
     exact ⟨0, b, k, rfl, rfl, hk, (by simpa using h : x = b.block).symm⟩
    ·simp at h
   ·exact ⟨i + 1, b', k', by simpa using h1, by simpa using h2, h3, h4⟩
  ·rintro ⟨i, b', k', h1, h2, h3, h4⟩
   cases i with
   | zero =>
    simp at h1 h2
    subst h1 h2
    left; simp [h3, h4]
   | succ i => right; exact ⟨i, b', k', by simpa using h1, by simpa using h2, h3, h4⟩
theorem qb6 : ∀ {ℓ ℓ' : List Base} {own own' : List Blk}, ℓ.length = own.length → mutL (ℓ ++ ℓ') (own ++ own') = mutL ℓ own ++ mutL ℓ' own'
 | [], ℓ', [], own', _ => by simp [mutL]
 | [], _, _ :: _, _, h => by simp at h
 | _ :: _, _, [], _, h => by simp at h
 | b :: ℓ, ℓ', k :: ks, own', h => by simp only [List.cons_append, mutL, qb6 (ℓ := ℓ) (own := ks) (by simpa using h), List.append_assoc]
theorem qgj : ∀ {ℓ : List Base} {own : List Blk} {i : Nat} {k k' : Blk}, own[i]? = some k → k'.mut = k.mut → mutL ℓ (own.set i k') = mutL ℓ own
 | [], own, i, k, k', _, _ => by cases own <;> cases i <;> simp [mutL]
 | b :: ℓ, [], i, k, k', h, _ => by simp at h
 | b :: ℓ, q :: ks, 0, k, k', h, hm => by simp at h; subst h; simp [mutL, hm]
 | b :: ℓ, q :: ks, i + 1, k, k', h, hm => by simp only [List.set_cons_succ, mutL]; rw [qgj (i := i) (by simpa using h) hm]
theorem qc2 : ∀ {ℓ : List Base} {own : List Blk} (n : Nat), (mutL (ℓ.take n) (own.take n)).Sublist (mutL ℓ own)
 | [], own, n => by simp [mutL]
 | b :: ℓ, [], n => by cases n <;> simp [mutL]
 | b :: ℓ, k :: ks, 0 => by simp [mutL]
 | b :: ℓ, k :: ks, n + 1 => by simp only [List.take_succ_cons, mutL]; exact (List.Sublist.refl _).append (qc2 n)
theorem qak {own : List Blk} {n : Nat} (h : ∀ k ∈ own, k.wf n = true) {i : Nat} {k : Blk} (hi : own[i]? = some k) : k.wf n = true := h k (List.mem_of_getElem? hi)
theorem Blk.wf_mono {n m : Nat} (h : n ≤ m) {k : Blk} (hk : k.wf n = true) : k.wf m = true := by
 cases k <;> simp only [Blk.wf] at hk ⊢
 ·exact qbc h _ hk
 ·exact qbc h _ hk
 ·exact qlt h hk
 ·simp only [blt_true] at hk ⊢; omega
theorem BlkOK.keep {J J' : Nat → Prop} {ℓ ℓ' : List Base} {w w' : World} {b : Base} {k : Blk} {n : Nat} (h : BlkOK J ℓ w b k) (hwf : k.wf n = true) (hℓ : ∀ i, i < n → ℓ'.getD i default = ℓ.getD i default)
  (hJ : ∀ x, x < w.heap.size → J x → J' x) (hw : b.block < w.heap.size → w'.heap[b.block]? = w.heap[b.block]?) : BlkOK J' ℓ' w' b k := by
 cases k with
 | cells T cs =>
  simp only [BlkOK, Blk.wf] at h hwf ⊢
  rw [qx hℓ cs hwf, hw (qag h.2)]
  exact h
 | obj o =>
  simp only [BlkOK] at h ⊢
  rw [hw (qag h.2)]
  exact h
 | imm cs =>
  simp only [BlkOK, Blk.wf] at h hwf ⊢
  obtain ⟨hj, c, T, fz, hb, k', ht⟩ := h
  have hlt := qag hb
  exact ⟨hJ _ hlt hj, c, T, fz, (hw hlt).trans hb, k', by rw [qx hℓ cs hwf]; exact ht⟩
 | dead => trivial
 | lost => trivial
 | lp x =>
  simp only [BlkOK, Blk.wf] at h hwf ⊢
  obtain ⟨h0, r, hb, h1, h2, h3, h4, h5, h6, h7⟩ := h
  exact ⟨h0, r, (hw (qag hb)).trans hb, h1, h2, h3, h4, h5, h6, fun t s hs => by rw [qy hℓ s (qcg hwf t s hs)]; exact h7 t s hs⟩
 | iter i s n p =>
  simp only [BlkOK, Blk.wf, blt_true] at h hwf ⊢
  rw [hw (qag h.2), hℓ i hwf]
  exact h
theorem AccOK.keep {J J' : Nat → Prop} {w w' : World} {a : Acc} (h : AccOK J w a) (hJ : ∀ x, x < w.heap.size → J x → J' x ∧ w'.heap[x]? = w.heap[x]?) (hw : ∀ x ∈ accBlk a.v, x < w.heap.size → w'.heap[x]? = w.heap[x]?) : AccOK J' w' a := by
 rcases h with h | ⟨b, cap, c, hv, hb, hs, hl, hr⟩ | ⟨x, n, cap, hv, hn, hl, hq⟩
 ·exact .inl h
 ·exact .row ⟨b, cap, c, hv, (hw b (by simp [hv, accBlk]) (qag hb)).trans hb, hs, hl, RepE.map hJ _ _ _ hr⟩
 ·refine .inr (.inr ⟨x, n, cap, hv, hn, hl, ?_⟩)
  rcases hq with h0 | ⟨b, off, c, hx, hb, hs, hr⟩
  ·exact .inl h0
  ·exact .inr ⟨b, off, c, hx, (hw b (by simp [hv, hx, accBlk]) (qag hb)).trans hb, hs, RepE.map hJ _ _ _ hr⟩
theorem AccOK.rep {J J' : Nat → Prop} {w : World} {a : Acc} (h : AccOK J w a) (hJ : ∀ x, x < w.heap.size → J x → J' x ∧ w.heap[x]? = w.heap[x]?) (hb : ∀ b ∈ accBlk a.v, J' b) : Rep J' w (accVal a.v) (.sl a.k a.ds) := by
 simp only [Rep, RepC]
 rcases h with ⟨hv, hd⟩ | ⟨b, cap, c, hv, hgb, hcs, hl, hre⟩ | ⟨x, n, cap, hv, hn, hl, hq⟩
 ·rw [hv, hd]
  exact ⟨none, 0, rfl, ⟨Nat.le_refl _, Nat.zero_le _⟩, .inl rfl⟩
 ·have h1 := hb b (by simp [hv, accBlk])
  rw [hv]
  refine ⟨_, cap, rfl, hl, .inr ⟨b, 0, c, a.T, (0, 0), rfl, h1, hgb, ?_⟩⟩
  simpa using RepE.map hJ a.k _ _ hre
 ·subst hn
  rcases hq with h0 | ⟨b, off, c, hx, hgb, hcs, hre⟩
  ·rw [hv]
   exact ⟨x, cap, rfl, hl, .inl (List.length_eq_zero_iff.1 (by omega))⟩
  ·have h1 := hb b (by simp [hv, hx, accBlk])
   rw [hv]
   exact ⟨x, cap, rfl, hl, .inr ⟨b, off, c, a.T, (0, 0), hx, h1, hgb, RepE.map hJ a.k _ _ hre⟩⟩
theorem qaw {ℓ ℓ' : List Base} {i : Nat} (h : i < ℓ.length) : (ℓ ++ ℓ').getD i default = ℓ.getD i default := by
 simp [List.getD, List.getElem?_append_left h]
theorem qau {ℓ ℓ' : List Base} (h : ℓ <+: ℓ') {i : Nat} (hi : i < ℓ.length) : ℓ'.getD i default = ℓ.getD i default := by
 obtain ⟨t, rfl⟩ := h
 exact qaw hi
theorem qd4 {ℓ : List Base} {S : St} (hl : ℓ.length = S.own.length) (b : Base) (k : Blk) : ∀ x, x ∈ mutS (ℓ ++ [b]) ⟨S.own ++ [k], S.accs, S.reps⟩ ↔ x ∈ mutS ℓ S ∨ (k.mut = true ∧ x = b.block) := by
 intro x
 simp only [mutS, qb6 hl, List.mem_append, mutL, List.append_nil]
 constructor
 ·rintro ((h | h) | h)
  ·exact .inl (.inl h)
  ·split at h
   ·rename_i hk; exact .inr ⟨hk, by simpa using h⟩
   ·simp at h
  ·exact .inl (.inr h)
 ·rintro ((h | h) | ⟨h, rfl⟩)
  ·exact .inl (.inl h)
  ·exact .inr h
  ·exact .inl (.inr (by simp [h]))
theorem Good.push {J : Nat → Prop} {ℓ : List Base} {S : St} {w w' : World} (h : Good J ℓ S w) (b : Base) (k : Blk) (hwf : k.wf S.own.length = true) (hb : k.mut = true → w.heap.size ≤ b.block ∧ b.block < w'.heap.size ∧ J b.block)
  (hsize : w.heap.size ≤ w'.heap.size) (hw : ∀ x, x < w.heap.size → w'.heap[x]? = w.heap[x]?)
  (hok : BlkOK (Jx J (mutS (ℓ ++ [b]) ⟨S.own ++ [k], S.accs, S.reps⟩)) ℓ w' b k) : Good J (ℓ ++ [b]) ⟨S.own ++ [k], S.accs, S.reps⟩ w' := by
 have hm := qd4 h.len b k
 have hJ : ∀ x, x < w.heap.size → Jx J (mutS ℓ S) x → Jx J (mutS (ℓ ++ [b]) ⟨S.own ++ [k], S.accs, S.reps⟩) x := by
  intro x hx ⟨h1, h2⟩
  refine ⟨h1, fun hx' => ?_⟩
  rcases (hm x).1 hx' with h3 | ⟨h3, rfl⟩
  ·exact h2 h3
  ·have := (hb h3).1; omega
 have hget : ∀ i, i < S.own.length → (ℓ ++ [b]).getD i default = ℓ.getD i default := fun i hi => qaw (by rw [h.len]; exact hi)
 constructor
 ·simp [h.len]
 ·simp only [mutS, qb6 h.len, mutL, List.append_nil]
  have hn := h.nodup
  simp only [mutS] at hn
  rw [List.nodup_append] at hn
  split
  ·rename_i hk
   have hb' := hb hk
   rw [List.append_assoc, List.nodup_append]
   refine ⟨hn.1, ?_, ?_⟩
   ·rw [List.singleton_append, List.nodup_cons]
    refine ⟨fun hx => ?_, hn.2.1⟩
    have := h.lt b.block (by simp only [mutS]; exact List.mem_append.2 (.inr hx))
    omega
   ·intro x hx y hy
    rcases List.mem_append.1 hy with h1 | h1
    ·have := h.lt x (by simp only [mutS]; exact List.mem_append.2 (.inl hx))
     simp at h1
     omega
    ·exact hn.2.2 x hx y h1
  ·rw [List.append_nil]; exact List.nodup_append.2 hn
 ·intro x hx
  rcases (hm x).1 hx with h1 | ⟨h1, rfl⟩
  ·exact Nat.lt_of_lt_of_le (h.lt x h1) hsize
  ·exact (hb h1).2.1
 ·intro x hx
  rcases (hm x).1 hx with h1 | ⟨h1, rfl⟩
  ·exact h.memJ x h1
  ·exact (hb h1).2.2
 ·intro q hq
  simp only [List.length_append, List.length_singleton]
  rcases List.mem_append.1 hq with h1 | h1
  ·exact Blk.wf_mono (by omega) (h.wf q h1)
  ·simp at h1; subst h1; exact Blk.wf_mono (by omega) hwf
 ·intro i b' k' hi hk'
  simp only at hk'
  rcases Nat.lt_or_ge i S.own.length with hlt | hge
  ·rw [List.getElem?_append_left (by rw [h.len]; exact hlt)] at hi
   rw [List.getElem?_append_left hlt] at hk'
   have := h.own i b' k' hi hk'
   exact this.keep (qak h.wf hk') hget hJ (fun hx => hw _ hx)
  ·rw [List.getElem?_append_right (by rw [h.len]; exact hge)] at hi
   rw [List.getElem?_append_right hge] at hk'
   have e1 : i - ℓ.length = 0 := by
    rcases Nat.eq_zero_or_pos (i - ℓ.length) with h0 | h0
    ·exact h0
    ·rw [List.getElem?_eq_none (by simp; omega)] at hi; cases hi
   have e2 : i - S.own.length = 0 := by rw [h.len] at e1; exact e1
   rw [e1] at hi; rw [e2] at hk'
   simp at hi hk'
   subst hi hk'
   cases k with
   | cells T cs =>
    simp only [BlkOK, Blk.wf] at hok hwf ⊢
    rw [qx hget cs hwf]; exact hok
   | obj o => exact hok
   | imm cs =>
    simp only [BlkOK, Blk.wf] at hok hwf ⊢
    rw [qx hget cs hwf]; exact hok
   | dead => trivial
   | lost => trivial
   | lp x => exact hok.keep hwf hget (fun _ _ hj => hj) (fun _ => rfl)
   | iter i s n p => exact hok.keep hwf hget (fun _ _ hj => hj) (fun _ => rfl)
 ·intro a ha
  exact (h.accs a ha).keep (fun x hx hj => ⟨hJ x hx hj, hw x hx⟩) (fun x _ hx => hw x hx)
 ·intro p hp
  exact (h.reps p hp).map (fun x hx hj => ⟨hJ x hx hj, hw x hx⟩)
theorem Good.update {J : Nat → Prop} {ℓ : List Base} {S : St} {w w' : World} (h : Good J ℓ S w) {i : Nat} {b : Base} {k k' : Blk} (hk : S.own[i]? = some k) (hb : ℓ[i]? = some b) (hm : k.mut = true) (hm' : k'.mut = true) (hwf : k'.wf S.own.length = true)
  (hsize : w.heap.size ≤ w'.heap.size) (hw : ∀ x, x < w.heap.size → x ≠ b.block → w'.heap[x]? = w.heap[x]?) (hok : BlkOK (Jx J (mutS ℓ S)) ℓ w' b k') : Good J ℓ ⟨S.own.set i k', S.accs, S.reps⟩ w' := by
 have hmut : mutS ℓ ⟨S.own.set i k', S.accs, S.reps⟩ = mutS ℓ S := by
  simp only [mutS]; rw [qgj hk (hm'.trans hm.symm)]
 have hbm : b.block ∈ mutS ℓ S := by simp only [mutS]; exact List.mem_append.2 (.inl (mem_mutL.2 ⟨i, b, k, hb, hk, hm, rfl⟩))
 have hJ : ∀ x, x < w.heap.size → Jx J (mutS ℓ S) x → Jx J (mutS ℓ S) x ∧ w'.heap[x]? = w.heap[x]? :=
  fun x hx hj => ⟨hj, hw x hx (fun e => hj.2 (e ▸ hbm))⟩
 have hn := h.nodup
 simp only [mutS] at hn
 rw [List.nodup_append] at hn
 -- two different places of a list without repetition
 have huniq : ∀ (ℓ : List Base) (own : List Blk), (mutL ℓ own).Nodup → ∀ (i j : Nat) (b b' : Base) (k k' : Blk), ℓ[i]? = some b → own[i]? = some k → k.mut = true → ℓ[j]? = some b' → own[j]? = some k' → k'.mut = true → b.block = b'.block → i = j := by
  intro ℓ
  induction ℓ with
  | nil => intro own _ i j b b' k k' h1; simp at h1
  | cons c ℓ ih =>
   intro own hnd i j b b' k k' h1 h2 h3 h4 h5 h6 h7
   cases own with
   | nil => simp at h2
   | cons q own =>
    simp only [mutL] at hnd
    rw [List.nodup_append] at hnd
    cases i with
    | zero =>
     cases j with
     | zero => rfl
     | succ j =>
      simp at h1 h2 h4 h5
      subst h1 h2
      simp only [h3, if_true] at hnd
      exact (hnd.2.2 c.block (by simp) b'.block (mem_mutL.2 ⟨j, b', k', h4, h5, h6, rfl⟩) h7).elim
    | succ i =>
     cases j with
     | zero =>
      simp at h1 h2 h4 h5
      subst h4 h5
      simp only [h6, if_true] at hnd
      exact (hnd.2.2 c.block (by simp) b.block (mem_mutL.2 ⟨i, b, k, h1, h2, h3, rfl⟩) h7.symm).elim
     | succ j =>
      simp at h1 h2 h4 h5
      rw [ih own hnd.2.1 i j b b' k k' h1 h2 h3 h4 h5 h6 h7]
 constructor
 ·simp [h.len]
 ·rw [hmut]; exact h.nodup
 ·rw [hmut]; exact fun x hx => Nat.lt_of_lt_of_le (h.lt x hx) hsize
 ·rw [hmut]; exact h.memJ
 ·intro q hq
  simp only [List.length_set] at hq ⊢
  rcases List.mem_or_eq_of_mem_set hq with h1 | h1
  ·exact h.wf q h1
  ·subst h1; exact hwf
 ·intro j b' q hj hq
  rw [hmut]
  simp only at hq
  by_cases hij : i = j
  ·subst hij
   rw [hb] at hj
   cases hj
   rw [List.getElem?_set_self (by
    rcases Nat.lt_or_ge i S.own.length with h1 | h1
    ·exact h1
    ·rw [List.getElem?_eq_none h1] at hk; cases hk)] at hq
   cases hq
   exact hok
  ·rw [List.getElem?_set_ne hij] at hq
   have h0 := h.own j b' q hj hq
   by_cases hqm : q.mut = true
   ·have hne : b'.block ≠ b.block := fun e => hij (huniq ℓ S.own hn.1 i j b b' k q hb hk hm hj hq hqm e.symm)
    exact h0.keep (qak h.wf hq) (fun _ _ => rfl) (fun x hx hj => (hJ x hx hj).1) (fun hx => hw _ hx hne)
   ·cases q with
    | cells T cs => simp [Blk.mut] at hqm
    | obj o => simp [Blk.mut] at hqm
    | lp x => simp [Blk.mut] at hqm
    | iter i s n p => simp [Blk.mut] at hqm
    | imm cs =>
     have hj0 := h0
     simp only [BlkOK] at hj0
     refine h0.keep (qak h.wf hq) (fun _ _ => rfl) (fun x hx hj => (hJ x hx hj).1) (fun hx => (hJ _ hx hj0.1).2)
    | dead => trivial
    | lost => trivial
 ·intro a ha
  rw [hmut]
  refine (h.accs a ha).keep hJ (fun x hx hlt => hw x hlt (fun e => ?_))
  subst e
  exact (hn.2.2 b.block (mem_mutL.2 ⟨i, b, k, hb, hk, hm, rfl⟩) b.block (List.mem_flatMap.2 ⟨a, ha, hx⟩) rfl).elim
 ·intro p hp
  rw [hmut]
  exact (h.reps p hp).map hJ
theorem qc9 {α β : Type} (f : α → List β) : ∀ {l l' : List α}, l.Sublist l' → (l.flatMap f).Sublist (l'.flatMap f)
 | _, _, .slnil => by simp
 | _, _, .cons a h => by simp only [List.flatMap_cons]; exact (qc9 f h).trans (List.sublist_append_right _ _)
 | _, _, .cons_cons a h => by simp only [List.flatMap_cons]; exact (List.Sublist.refl _).append (qc9 f h)
theorem StLe.part (S : St) (n : Nat) (hn : n ≤ S.own.length) (hwf : ∀ k ∈ S.own.take n, k.wf n = true) (accs : List Acc) (ha : accs.Sublist S.accs) (reps : List (Value × D)) (hr : ∀ p ∈ reps, p ∈ S.reps) : StLe S ⟨S.own.take n, accs, reps⟩ := by
 have hlen : (S.own.take n).length = n := by rw [List.length_take]; omega
 refine ⟨by rw [hlen]; exact hn, fun J ℓ w h => ?_⟩
 rw [hlen]
 have hsub : (mutS (ℓ.take n) ⟨S.own.take n, accs, reps⟩).Sublist (mutS ℓ S) := by
  simp only [mutS]
  exact (qc2 n).append (qc9 _ ha)
 have hmem : ∀ b ∈ mutS (ℓ.take n) ⟨S.own.take n, accs, reps⟩, b ∈ mutS ℓ S := fun b hb => hsub.subset hb
 have hJ : ∀ x, x < w.heap.size → Jx J (mutS ℓ S) x → Jx J (mutS (ℓ.take n) ⟨S.own.take n, accs, reps⟩) x ∧ w.heap[x]? = w.heap[x]? := fun x _ hj => ⟨⟨hj.1, fun hx => hj.2 (hmem x hx)⟩, rfl⟩
 refine ⟨?_, hmem⟩
 constructor
 ·simp [h.len]
 ·exact hsub.nodup h.nodup
 ·exact fun b hb => h.lt b (hmem b hb)
 ·exact fun b hb => h.memJ b (hmem b hb)
 ·intro k hk; rw [hlen]; exact hwf k hk
 ·intro i b k hi hk
  simp only at hk
  have hin : i < n := by
   rcases Nat.lt_or_ge i n with h1 | h1
   ·exact h1
   ·rw [List.getElem?_eq_none (by rw [hlen]; exact h1)] at hk; cases hk
  rw [List.getElem?_take, if_pos hin] at hi hk
  refine (h.own i b k hi hk).keep (hwf k (List.mem_of_getElem? (by rw [List.getElem?_take, if_pos hin]; exact hk))) (fun j hj => ?_) (fun x hx hj => (hJ x hx hj).1) (fun _ => rfl)
  simp [List.getD, hj]
 ·intro a ha'
  exact (h.accs a (ha.subset ha')).keep hJ (fun _ _ _ => rfl)
 ·intro p hp
  exact (h.reps p (hr p hp)).map hJ
end

section
open Go
def Holds (a : Act) (l : Atoms) : Prop := ∀ p ∈ l, a.tmps.getD p.1 undef = .bool p.2
def EnvOK (ℓ : List Base) (n : Nat) (env : Env) (a : Act) : Prop := ∀ t s, find env t = some s → s.wf n = true ∧ a.tmps.getD t undef = s.den ℓ
def GenOK (ℓ : List Base) (n : Nat) (gen : Gen) (a : Act) : Prop := ∀ t s tags, gfind gen t = some (s, tags) → (Holds a tags → s.wf n = true ∧ a.tmps.getD t undef = s.den ℓ) ∧ (¬ Holds a tags → a.tmps.getD t undef = undef)
theorem qi1 {a b : Bool} (h : beqB a b = true) : a = b := by cases a <;> cases b <;> simp_all [beqB]
theorem beqB_ne {a b : Bool} (h : beqB a b = false) : a = !b := by cases a <;> cases b <;> simp_all [beqB]
theorem qjg {g : Nat} {b : Bool} : ∀ {l : Atoms}, memAtom g b l = true → (g, b) ∈ l
 | [], h => by simp [memAtom] at h
 | (h', c) :: r, h => by
  simp only [memAtom] at h
  split at h
  ·rename_i hb
   simp only [Bool.and_eq_true] at hb
   have h1 := Nat.eq_of_beq_eq_true hb.1
   have h2 := qi1 hb.2
   subst h1 h2
   simp
  ·exact List.mem_cons_of_mem _ (qjg h)
theorem qdu {a : Act} : ∀ {l l' : Atoms}, subAtoms l l' = true → Holds a l' → Holds a l
 | [], _, _, _ => by simp [Holds]
 | (g, b) :: r, l', h, hh => by
  simp only [subAtoms] at h
  split at h
  ·rename_i hm
   have := hh _ (qjg hm)
   have ih := qdu h hh
   intro p hp
   rcases List.mem_cons.1 hp with h1 | h1
   ·subst h1; exact this
   ·exact ih p h1
  ·cases h
theorem Holds.append {a : Act} {l l' : Atoms} (h : Holds a l) (h' : Holds a l') : Holds a (l ++ l') := by
 intro p hp
 rcases List.mem_append.1 hp with h1 | h1
 ·exact h p h1
 ·exact h' p h1
theorem qcb {g : Nat} {b : Bool} : ∀ {l : Atoms}, knownOf l g = some b → (g, b) ∈ l
 | [], h => by simp [knownOf] at h
 | (h', c) :: r, h => by
  simp only [knownOf] at h
  split at h
  ·rename_i hb
   have h1 := Nat.eq_of_beq_eq_true hb
   cases h
   subst h1
   simp
  ·exact List.mem_cons_of_mem _ (qcb h)
theorem qo0 (ℓ : List Base) (n : Nat) {v : Value} {s : SV} (h : constO v = some s) : s.wf n = true ∧ s.den ℓ = v := by
 cases v with
 | agg cs => simp only [constO, qu, Option.some.injEq] at h; subst h; exact ⟨by simp only [SV.wf, qg6], by simp only [SV.den, qfg]⟩
 | _ => simp only [constO, Option.some.injEq] at h; subst h; exact ⟨rfl, rfl⟩
structure Cx where
 J : Nat → Prop
 ℓ0 : List Base
 S0 : St
 w0 : World
 N : Nat
 rx : Option Nat
 base : List Deferred
 fz : List Nat
 t0 : Array Value
def Cx.ro (c : Cx) : Option Nat :=
 match c.rx with
 | none => none
 | some i => some (c.ℓ0.getD i default).block
def markD (r : Nat) : Deferred := { target := .collected r, args := #[] }
def marksOf : List Deferred → List Nat
 | [] => []
 | d :: ds => match d.target with
  | .collected r => r :: marksOf ds
  | _ => marksOf ds
def restOf : List Deferred → List Deferred
 | [] => []
 | d :: ds => match d.target with
  | .collected _ => restOf ds
  | _ => d :: restOf ds
structure Marks (w0 : World) (base ds : List Deferred) (w : World) : Prop where
 eq : restOf ds = base
 nodup : (marksOf ds).Nodup
 blk : ∀ r ∈ marksOf ds, w0.heap.size ≤ r ∧ w.heap[r]? = some (.deferred (some []))
def Cx.Ja (c : Cx) (a : Act) : Nat → Prop := fun b => c.J b ∧ b ∉ marksOf a.defers
structure Inv (c : Cx) (ℓ : List Base) (kn : Atoms) (gen : Gen) (env : Env) (S : St) (a : Act) (w : World) : Prop where
 size : a.tmps.size = c.N ∧ (∀ t ∈ c.fz, a.tmps.getD t undef = c.t0.getD t undef) ∧ (c.fz ≠ [] → marksOf a.defers = [])
 defers : Marks c.w0 c.base a.defers w
 env : EnvOK ℓ S.own.length env a
 gen : GenOK ℓ S.own.length gen a
 kn : Holds a kn
 good : Good (c.Ja a) ℓ S w
 fresh0 : Fresh c.J c.w0
 pre : c.ℓ0 <+: ℓ
 ext : Ext (mutS c.ℓ0 c.S0) c.w0 w
 fresh : ∀ b ∈ mutS ℓ S, b ∈ mutS c.ℓ0 c.S0 ∨ c.w0.heap.size ≤ b
theorem Inv.freshJ {c : Cx} {ℓ : List Base} {kn : Atoms} {gen : Gen} {env : Env} {S : St} {a : Act} {w : World} (h : Inv c ℓ kn gen env S a w) : Fresh (c.Ja a) w :=
 fun b hb => ⟨h.fresh0 b (Nat.le_trans h.ext.size hb), fun hm => by have := qag (h.defers.blk b hm).2; omega⟩
section
variable {P : Program} {tt : Tab} {c : Cx} {ℓ : List Base} {kn al : Atoms} {gen : Gen} {env : Env} {S : St} {a : Act} {w : World}
theorem qdl (h : Inv c ℓ kn gen env S a w) (hal : Holds a al) {ex : Atoms} (hex : Holds a ex) {x : Operand} {s : SV} (hg : getter gen env al ex x = some s) : s.wf S.own.length = true ∧ a.eval x = s.den ℓ := by
 cases x with
 | tmp t =>
  simp only [getter] at hg
  split at hg
  ·rename_i s' tags hf
   split at hg
   ·rename_i hs
    cases hg
    have := h.gen t _ _ hf
    exact this.1 (qdu hs (hex.append hal))
   ·cases hg
  ·exact h.env t s hg
 | const v =>
  simp only [getter] at hg
  have := qo0 ℓ S.own.length hg
  exact ⟨this.1, this.2.symm⟩
 | global g =>
  simp only [getter, Option.some.injEq] at hg
  subst hg
  exact ⟨rfl, rfl⟩
 | func f =>
  simp only [getter, Option.some.injEq] at hg
  subst hg
  exact ⟨rfl, rfl⟩
theorem qlx {J : Nat → Prop} (h : Good J ℓ S w) {i : Nat} {k : Blk} (hk : S.own[i]? = some k) : ∃ b, ℓ[i]? = some b ∧ BlkOK (Jx J (mutS ℓ S)) ℓ w b k := by
 have hlt : i < ℓ.length := by
  rw [h.len]
  rcases Nat.lt_or_ge i S.own.length with h1 | h1
  ·exact h1
  ·rw [List.getElem?_eq_none h1] at hk; cases hk
 exact ⟨ℓ[i], List.getElem?_eq_getElem hlt, h.own i _ k (List.getElem?_eq_getElem hlt) hk⟩
theorem Good.cellsAt {J : Nat → Prop} (h : Good J ℓ S w) {i : Nat} {cs : List SV} (hk : cellsIn (nth S.own i) = some cs) :
  qr S.own.length cs = true ∧ ∃ b, ℓ[i]? = some b ∧ ∀ j v, (qd ℓ cs)[j]? = some v → w.cell? ⟨b.block, b.off + j, none⟩ = some v := by
 cases hn : nth S.own i with
 | none => rw [hn] at hk; simp [cellsIn] at hk
 | some k =>
  rw [hn] at hk
  have hk' : S.own[i]? = some k := by rw [← qab]; exact hn
  obtain ⟨b, hb, hok⟩ := qlx h hk'
  have := qpe (qak h.wf hk') hok hk
  exact ⟨this.1, b, hb, this.2⟩
theorem Inv.pctx (hT : TTOK P tt) (h : Inv c ℓ kn gen env S a w) (hal : Holds a al) : PCtx P tt (Jx (c.Ja a) (mutS ℓ S)) ℓ S.own S.own.length a.eval kn (getter gen env al) w where
 hT := hT
 const := fun _ => rfl
 get0 := fun x s hs => qdl h hal (by simp [Holds]) hs
 get1 := fun g b x s hs hb => qdl h hal (by intro p hp; simp at hp; subst hp; exact hb) hs
 hkn := fun g b hk => h.kn _ (qcb hk)
 own := fun i cs hk => h.good.cellsAt hk
structure Stepped (J : Nat → Prop) (ℓ : List Base) (S : St) (w : World) (ℓ' : List Base) (S' : St) (w' : World) : Prop where
 pre : ℓ <+: ℓ'
 ext : Ext (mutS ℓ S) w w'
 good : Good J ℓ' S' w'
 fresh : ∀ b ∈ mutS ℓ' S', b ∈ mutS ℓ S ∨ w.heap.size ≤ b
theorem Stepped.refl {J : Nat → Prop} (h : Good J ℓ S w) : Stepped J ℓ S w ℓ S w := ⟨List.prefix_refl _, Ext.refl _ _, h, fun _ hb => .inl hb⟩
theorem qdc {ρ : Operand → Value} {args : Array Operand} {l : List SV} (h : args.toList.map ρ = qd ℓ l) : args.map ρ = (qd ℓ l).toArray := by
 rw [← Array.toList_inj, Array.toList_map, h]
theorem qcj {C : PCtx P tt (Jx (c.Ja a) (mutS ℓ S)) ℓ S.own S.own.length a.eval kn (getter gen env al) w} : ∀ (xs : List (Nat × Operand)) (l : List (Nat × SV)), getParts (getter gen env al) xs = some l → xs.map (fun (i, x) => (i, a.eval x)) = denParts ℓ l
 | [], l, h => by simp only [getParts, Option.some.injEq] at h; subst h; rfl
 | (i, x) :: xs, l, h => by
  simp only [getParts] at h
  split at h
  ·rename_i s hs
   split at h
   ·rename_i ss hss
    cases h
    have h1 := C.get0 _ _ hs
    have h2 := qcj (C := C) xs ss hss
    simp only [List.map_cons, denParts, h1.2, h2]
   ·cases h
  ·cases h
theorem qa9 {C : PCtx P tt (Jx (c.Ja a) (mutS ℓ S)) ℓ S.own S.own.length a.eval kn (getter gen env al) w} {x : Option Operand} {s : Option SV} (h : mapOpt (getter gen env al []) x = some s) : x.map a.eval = denO ℓ s := by
 cases x with
 | none => simp only [mapOpt, Option.some.injEq] at h; subst h; rfl
 | some x =>
  simp only [mapOpt] at h
  split at h
  ·rename_i b hb
   cases h
   simp [denO, (C.get0 _ _ hb).2]
  ·cases h
def Met (c : Cx) (ℓ : List Base) (S : St) (a : Act) (w : World) (o : Oper) (K : SV → St → Prop) (next : Act → World → Prop) : Prop :=
 ∀ r ℓ' S' w', Stepped (c.Ja a) ℓ S w ℓ' S' w' → r.wf S'.own.length = true → K r S' → next (a.put o.dst (r.den ℓ')) w'
def MetP (c : Cx) (ℓ : List Base) (S : St) (a : Act) (w : World) (Kp : SV → St → Prop) (Q : Exit → Act → World → Prop) : Prop :=
 ∀ v ℓ' S' w', Stepped (c.Ja a) ℓ S w ℓ' S' w' → v.wf S'.own.length = true → Kp v S' → Q (.panic [{ v := v.den ℓ', recovered := false }]) a w'
abbrev upOp (ro : Option Nat) (P : Program) (o : Oper) (a : Act) (w : World) (next : Act → World → Prop) (Q : Exit → Act → World → Prop) : Prop := o.uponIn (fen ro) 0 P a next Q ((execOp a.eval o).run P w)
theorem up_wp {ro : Option Nat} {o : Oper} {next : Act → World → Prop} {Q : Exit → Act → World → Prop} (hnd : ∀ c, o.op ≠ .defer c) (h : upOp ro P o a w next Q) : o.wpIn (fen ro) 0 P a w next Q :=
 ⟨fun _ _ => trivial, by rw [Oper.semAt_eq _ _ _ hnd]; exact h⟩
theorem qbr {ro : Option Nat} {o : Oper} {next : Act → World → Prop} {Q : Exit → Act → World → Prop} {v : Value} {w' : World} (h : (execOp a.eval o).run P w = .ok (.value v) w') (hn : next (a.put o.dst v) w') : upOp ro P o a w next Q := by
 unfold upOp; rw [h]; exact hn
theorem qat {ro : Option Nat} {o : Oper} {K : SV → St → Prop} {next : Act → World → Prop} {Q : Exit → Act → World → Prop} {m : List Base → Sem Value} (hI : Inv c ℓ kn gen env S a w) (he : execOp a.eval o = (do pure (.value (← m ℓ)) : Sem Next)) (hK : Met c ℓ S a w o K next) (h : AtSem P m S K) : upOp ro P o a w next Q := by
 obtain ⟨r, ℓ', S', w', hr, hwf, hp, hx, hg, hf, hk⟩ := h.sem (c.Ja a) ℓ w hI.good hI.freshJ
 refine qbr (v := r.den ℓ') (w' := w') ?_ (hK r ℓ' S' w' ⟨hp, hx, hg, hf⟩ hwf hk)
 rw [he, Sem.run_bind, hr]; rfl
theorem qas {ro : Option Nat} {o : Oper} {K : SV → St → Prop} {next : Act → World → Prop} {Q : Exit → Act → World → Prop} {m : List Base → Sem Value} (hI : Inv c ℓ kn gen env S a w) (he : execOp a.eval o = (do pure (.value (← m ℓ)) : Sem Next)) (hK : Met c ℓ S a w o K next) (h : AtPure P m S K) : upOp ro P o a w next Q := by
 obtain ⟨r, ℓ', S', hr, hwf, hp, hg, hf, _, hk⟩ := h.sem (c.Ja a) ℓ w hI.good hI.freshJ
 refine qbr (v := r.den ℓ') (w' := w) ?_ (hK r ℓ' S' w ⟨hp, Ext.refl _ _, hg, fun b hb => .inl (hf b hb)⟩ hwf hk)
 rw [he, Sem.run_bind, hr]; rfl
theorem qfe {ro : Option Nat} {o : Oper} {K : SV → St → Prop} {next : Act → World → Prop} {Q : Exit → Act → World → Prop} {m : List Base → Sem Unit} (hI : Inv c ℓ kn gen env S a w) (he : execOp a.eval o = (do m ℓ; pure .skip : Sem Next)) (hK : Met c ℓ S a w o K next) (h : AtSem P (fun ℓ => do m ℓ; pure undef) S K) : upOp ro P o a w next Q := by
 obtain ⟨r, ℓ', S', w', hr, hwf, hp, hx, hg, hf, hk⟩ := h.sem (c.Ja a) ℓ w hI.good hI.freshJ
 simp only [Sem.run_bind, Sem.run_pure] at hr
 unfold upOp
 rw [he, Sem.run_bind]
 cases hm : (m ℓ).run P w with
 | ok u w1 =>
  rw [hm] at hr
  simp only [Result.andThen_ok, Result.ok.injEq] at hr
  obtain ⟨h1, h2⟩ := hr
  subst h2
  simp only [Result.andThen_ok, Sem.run_pure, Oper.uponIn_skip]
  rw [h1]
  exact hK r ℓ' S' w1 ⟨hp, hx, hg, hf⟩ hwf hk
 | halt x w1 => rw [hm] at hr; simp at hr
theorem ql6 {ro : Option Nat} {o : Oper} {K Kp : SV → St → Prop} {next : Act → World → Prop} {Q : Exit → Act → World → Prop} {cl : Cal} {args : List SV} (hI : Inv c ℓ kn gen env S a w) (he : execOp a.eval o = cl.sem ℓ args) (hK : Met c ℓ S a w o K next) (hKp : MetP c ℓ S a w Kp Q)
  (h : Meets P cl args S (fun o S' => match o with
   | .ret r => K r S'
   | .pan v => Kp v S')) : upOp ro P o a w next Q := by
 obtain ⟨nx, hr, hc⟩ := h (c.Ja a) ℓ w hI.good hI.freshJ
 unfold upOp
 rw [he, hr]
 have fin : ∀ e w', CallPost (c.Ja a) ℓ S w (fun o S' => match o with
   | .ret r => K r S'
   | .pan v => Kp v S') e w' → (match e with
   | .returned v => next (a.put o.dst v) w'
   | .panicked chain => Q (.panic chain) a w'
   | .outgrown => LetsOut Q) := by
  rintro e w' ⟨ℓ', out, S', heq, hwf, hp, hx, hg, hf, hk⟩
  subst heq
  cases out with
  | ret r => exact hK r ℓ' S' w' ⟨hp, hx, hg, hf⟩ hwf hk
  | pan v => exact hKp v ℓ' S' w' ⟨hp, hx, hg, hf⟩ hwf hk
 cases nx with
 | enter f ag =>
  rw [Oper.uponIn_enter]
  refine ⟨fun h => by simp [fen] at h, CallsIn.mono (R := _) hc ?_⟩
  intro e w' he
  have := fin e w' he
  cases e <;> exact this
 | round l f tmps assign body =>
  rw [Oper.uponIn_round]
  refine ⟨fun h => by simp [fen] at h, RoundIn.mono (R := _) hc ?_⟩
  intro e w' he
  have := fin e w' he
  cases e <;> exact this
 | _ => exact hc.elim
theorem qgv (hI : Inv c ℓ kn gen env S a w) (T : TypeId) (cs : List SV) (hcs : qr S.own.length cs = true) :
  Stepped (c.Ja a) ℓ S w (ℓ ++ [⟨w.heap.size, 0⟩]) ⟨S.own ++ [.cells T cs], S.accs, S.reps⟩ (w.alloc (.cells (qd ℓ cs).toArray T (0, 0))) := by
 have hnew : (w.alloc (.cells (qd ℓ cs).toArray T (0, 0))).heap[w.heap.size]? = some (.cells (qd ℓ cs).toArray T (0, 0)) := by
  show (w.heap.push _)[w.heap.size]? = _
  simp
 have hold : ∀ x, x < w.heap.size → (w.alloc (.cells (qd ℓ cs).toArray T (0, 0))).heap[x]? = w.heap[x]? := by
  intro x hx
  show (w.heap.push _)[x]? = _
  rw [Array.getElem?_push, if_neg (by omega)]
 have hm := qd4 hI.good.len (S := S) ⟨w.heap.size, 0⟩ (.cells T cs)
 refine ⟨List.prefix_append _ _, ⟨rfl, rfl, by simp, fun x hx _ => hold x hx⟩, ?_, ?_⟩
 ·refine hI.good.push ⟨w.heap.size, 0⟩ (.cells T cs) hcs (fun _ => ⟨Nat.le_refl _, by simp, hI.freshJ _ (Nat.le_refl _)⟩) (by simp) hold ⟨rfl, hnew⟩
 ·intro x hx
  rcases (hm x).1 hx with h1 | ⟨_, h1⟩
  ·exact .inl h1
  ·subst h1; exact .inr (Nat.le_refl _)
theorem loc_wf (n : Nat) : (SV.loc n 0).wf (n + 1) = true := by simp [SV.wf, blt_true]
theorem qd7 (ℓ : List Base) (b : Base) : (ℓ ++ [b]).getD ℓ.length default = b := by simp [List.getD]
theorem qll {n : Nat} {s : SV} (h : s.wf n = true) : qr n (cellsOf s) = true := by
 cases s <;> simp_all [cellsOf, qr, SV.wf]
theorem qge : ∀ {l : List SV}, allOne l = true → ∀ v ∈ qd ℓ l, v.oneCell' = true
 | [], _, v, hv => by simp [qd] at hv
 | s :: r, h, v, hv => by
  simp only [allOne] at h
  split at h
  ·rename_i h1
   simp only [qd, List.mem_cons] at hv
   rcases hv with h2 | h2
   ·subst h2
    cases s <;> simp_all [oneCell, SV.den, Value.oneCell']
   ·exact qge h v h2
  ·cases h
theorem zeros_run {t : TypeId} {k : TK} (hT : TTOK P tt) (ht : tt t = some k) : ∃ z, (∀ w, (zeroValue t).run P w = .ok z w) ∧ z.cells = k.zeros.toArray := by
 have := hT t k ht
 cases k with
 | cell z => exact ⟨z, this.zero, this.cells⟩
 | slice e n => exact ⟨_, this.1.zero, rfl⟩
 | str => exact ⟨_, this.1.zero, rfl⟩
 | map k e => exact ⟨_, this.1.zero, rfl⟩
 | struct offs szs zs => exact ⟨_, this.2.2.1, rfl⟩
 | arr n e k zs => exact ⟨_, this.2.2.1, rfl⟩
theorem size_run {t : TypeId} {k : TK} (hT : TTOK P tt) (ht : tt t = some k) : ∀ w, (sizeOf t).run P w = .ok k.zeros.length w := by
 have := hT t k ht
 cases k with
 | cell z => exact this.size
 | slice e n => exact this.1.size
 | str => exact this.1.size
 | map k e => exact this.1.size
 | struct offs szs zs => exact this.2.1
 | arr n e k zs => exact this.2.1
theorem qip {o : Oper} {t : TypeId} (ho : o.op = .alloc t) {z : Value} (hz : (zeroValue t).run P w = .ok z w) : (execOp a.eval o).run P w = .ok (.value (.pointer (some ⟨w.heap.size, 0, none⟩))) (w.alloc (.cells z.cells t)) := by
 unfold execOp
 rw [ho]
 simp [Instr.alloc, hz, newVar, newRow]
theorem qlc {o : Oper} {t : TypeId} {x : Operand} (ho : o.op = .box t x) : (execOp a.eval o).run P w = .ok (.value (.pointer (some ⟨w.heap.size, 0, none⟩))) (w.alloc (.cells (a.eval x).cells t)) := by
 unfold execOp
 rw [ho]
 simp [Instr.box, newVar, newRow]
end
end
end Go.Tr
