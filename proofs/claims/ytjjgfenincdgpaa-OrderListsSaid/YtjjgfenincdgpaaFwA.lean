/- The data of the framework: what a value reads as (Rep), symbolic values (SV), the state of a symbolic run (St) and when it describes a world (Good). No condition: lemmas for the other texts. -/
import Derived.OrdersIn
import Derived.RangeFuncNested
import Derived.DefersIn
namespace Go.Tr
open Go

/-- Data without addresses. -/
inductive D where
  | int (k : IntKind) (n : Int)
  | bool (b : Bool)
  | str (s : ByteArray)
  | agg (ds : List D)
  | sl (k : Nat) (ds : List D)
  | ifc (t : TypeId) (d : D)

mutual
/-- The cells cs read as d in w; every block that is met satisfies J. -/
def RepC (J : Nat → Prop) (w : World) : D → List Value → Prop
  | .int k n, cs => cs = [.int k n]
  | .bool b, cs => cs = [.bool b]
  | .str s, cs => cs = [.string s]
  | .agg ds, cs => RepA J w ds cs
  | .sl k ds, cs => ∃ a cap, cs = [.slice a ds.length cap] ∧ (ds.length ≤ cap ∧ ds.length ≤ 1152921504606846976) ∧ (ds = [] ∨ ∃ b off c T fz, a = some ⟨b, off, none⟩ ∧ J b ∧ w.heap[b]? = some (.cells c T fz) ∧ RepE J w k ds (c.toList.drop off))
  | .ifc t d, cs => ∃ v, cs = [.iface t v] ∧ RepC J w d [v]
def RepA (J : Nat → Prop) (w : World) : List D → List Value → Prop
  | [], cs => cs = []
  | d :: ds, cs => ∃ x y, cs = x ++ y ∧ RepC J w d x ∧ RepA J w ds y
def RepE (J : Nat → Prop) (w : World) (k : Nat) : List D → List Value → Prop
  | [], _ => True
  | d :: ds, cs => k ≤ cs.length ∧ RepC J w d (cs.take k) ∧ RepE J w k ds (cs.drop k)
 end

mutual
theorem RepC.map {J J' : Nat → Prop} {w w' : World} (h : ∀ b, b < w.heap.size → J b → J' b ∧ w'.heap[b]? = w.heap[b]?) : ∀ (d : D) (cs : List Value), RepC J w d cs → RepC J' w' d cs
  | .int k n, cs, hh => by simpa only [RepC] using hh
  | .bool b, cs, hh => by simpa only [RepC] using hh
  | .str s, cs, hh => by simpa only [RepC] using hh
  | .agg ds, cs, hh => by simp only [RepC] at hh ⊢; exact RepA.map h ds cs hh
  | .sl k ds, cs, hh => by
    simp only [RepC] at hh ⊢
    obtain ⟨a, cap, h1, h2, h3⟩ := hh
    refine ⟨a, cap, h1, h2, ?_⟩
    rcases h3 with h3 | ⟨b, off, c, T, fz, e, hj, hb, he⟩
    · exact .inl h3
    · have hlt : b < w.heap.size := by
        rcases Nat.lt_or_ge b w.heap.size with hlt | hge
        · exact hlt
        · simp [Array.getElem?_eq_none hge] at hb
      obtain ⟨hj', hb'⟩ := h b hlt hj
      exact .inr ⟨b, off, c, T, fz, e, hj', hb'.trans hb, RepE.map h k ds _ he⟩
  | .ifc t d, cs, hh => by
    simp only [RepC] at hh ⊢
    obtain ⟨v, h1, h2⟩ := hh
    exact ⟨v, h1, RepC.map h d [v] h2⟩
theorem RepA.map {J J' : Nat → Prop} {w w' : World} (h : ∀ b, b < w.heap.size → J b → J' b ∧ w'.heap[b]? = w.heap[b]?) : ∀ (ds : List D) (cs : List Value), RepA J w ds cs → RepA J' w' ds cs
  | [], cs, hh => by simpa only [RepA] using hh
  | d :: ds, cs, hh => by
    simp only [RepA] at hh ⊢
    obtain ⟨x, y, h1, h2, h3⟩ := hh
    exact ⟨x, y, h1, RepC.map h d x h2, RepA.map h ds y h3⟩
theorem RepE.map {J J' : Nat → Prop} {w w' : World} (h : ∀ b, b < w.heap.size → J b → J' b ∧ w'.heap[b]? = w.heap[b]?) (k : Nat) : ∀ (ds : List D) (cs : List Value), RepE J w k ds cs → RepE J' w' k ds cs
  | [], cs, hh => by simp only [RepE]
  | d :: ds, cs, hh => by
    simp only [RepE] at hh ⊢
    exact ⟨hh.1, RepC.map h d _ hh.2.1, RepE.map h k ds _ hh.2.2⟩
 end

/-- A value reads as d. -/
def Rep (J : Nat → Prop) (w : World) (v : Value) : D → Prop
  | .agg ds => ∃ cs, v = .agg cs ∧ RepA J w ds cs.toList
  | d => RepC J w d [v]

theorem Rep.map {J J' : Nat → Prop} {w w' : World} (h : ∀ b, b < w.heap.size → J b → J' b ∧ w'.heap[b]? = w.heap[b]?) {v : Value} {d : D} (hh : Rep J w v d) : Rep J' w' v d := by
  cases d with
  | agg ds => obtain ⟨cs, h1, h2⟩ := hh; exact ⟨cs, h1, RepA.map h ds _ h2⟩
  | int k n => exact RepC.map h _ _ hh
  | bool b => exact RepC.map h _ _ hh
  | str s => exact RepC.map h _ _ hh
  | sl k ds => exact RepC.map h _ _ hh
  | ifc t d => exact RepC.map h _ _ hh

theorem RepE.get {J : Nat → Prop} {w : World} {k : Nat} : ∀ {ds : List D} {cs : List Value}, RepE J w k ds cs → ∀ {i : Nat} {d : D}, ds[i]? = some d → i * k + k ≤ cs.length ∧ RepC J w d ((cs.drop (i * k)).take k)
  | [], _, _, i, d, hi => by simp at hi
  | d0 :: ds, cs, h, 0, d, hi => by
    simp only [RepE] at h
    simp at hi
    subst hi
    simpa using ⟨h.1, h.2.1⟩
  | d0 :: ds, cs, h, i + 1, d, hi => by
    simp only [RepE] at h
    simp at hi
    have := RepE.get h.2.2 hi
    simp only [List.length_drop, List.drop_drop] at this
    have e : k + i * k = (i + 1) * k := by rw [Nat.add_mul]; omega
    rw [e] at this
    refine ⟨?_, this.2⟩
    have := this.1
    have e2 : (i + 1) * k = i * k + k := by rw [Nat.add_mul]; omega
    omega

theorem RepE.drop {J : Nat → Prop} {w : World} {k : Nat} : ∀ {ds : List D} {cs : List Value} (i : Nat), RepE J w k ds cs → RepE J w k (ds.drop i) (cs.drop (i * k))
  | ds, cs, 0, h => by simpa using h
  | [], cs, i + 1, h => by simp [RepE]
  | d :: ds, cs, i + 1, h => by
    simp only [RepE] at h
    have := RepE.drop i h.2.2
    simp only [List.drop_drop] at this
    have e : k + i * k = (i + 1) * k := by rw [Nat.add_mul]; omega
    rw [e] at this
    simpa using this

theorem RepE.take {J : Nat → Prop} {w : World} {k : Nat} : ∀ {ds : List D} {cs : List Value} (i : Nat), RepE J w k ds cs → RepE J w k (ds.take i) cs
  | ds, cs, 0, h => by simp [RepE]
  | [], cs, i + 1, h => by simp [RepE]
  | d :: ds, cs, i + 1, h => by
    simp only [RepE] at h
    simp only [List.take_succ_cons, RepE]
    exact ⟨h.1, h.2.1, RepE.take i h.2.2⟩

theorem RepE.append {J : Nat → Prop} {w : World} {k : Nat} : ∀ {ds es : List D} {xs ys : List Value}, RepE J w k ds xs → xs.length = ds.length * k → RepE J w k es ys → RepE J w k (ds ++ es) (xs ++ ys)
  | [], es, xs, ys, h, hl, h' => by
    have : xs = [] := by simpa using hl
    subst this
    simpa using h'
  | d :: ds, es, xs, ys, h, hl, h' => by
    simp only [RepE] at h
    simp only [List.length_cons, Nat.add_mul, Nat.one_mul] at hl
    simp only [List.cons_append, RepE, List.length_append]
    refine ⟨by omega, ?_, ?_⟩
    · rw [List.take_append_of_le_length h.1]; exact h.2.1
    · rw [List.drop_append_of_le_length h.1]
      exact RepE.append h.2.2 (by simp; omega) h'

/-- What lies behind the elements plays no part. -/
theorem RepE.cut {J : Nat → Prop} {w : World} {k : Nat} : ∀ {ds : List D} {xs ys : List Value}, RepE J w k ds xs → ds.length * k ≤ ys.length → ys.take (ds.length * k) = xs.take (ds.length * k) → RepE J w k ds ys
  | [], xs, ys, h, hl, h' => by simp [RepE]
  | d :: ds, xs, ys, h, hl, h' => by
    simp only [RepE] at h
    simp only [List.length_cons, Nat.add_mul, Nat.one_mul] at hl h'
    simp only [RepE]
    have ht : ys.take k = xs.take k := by
      have := congrArg (List.take k) h'
      simpa [List.take_take, Nat.min_eq_left (Nat.le_add_left k (ds.length * k))] using this
    have hd : (ys.drop k).take (ds.length * k) = (xs.drop k).take (ds.length * k) := by
      have := congrArg (List.drop k) h'
      rw [List.drop_take, List.drop_take, Nat.add_sub_cancel] at this
      exact this
    exact ⟨by omega, by rw [ht]; exact h.2.1, RepE.cut h.2.2 (by simp; omega) hd⟩

theorem RepE.len {J : Nat → Prop} {w : World} {k : Nat} : ∀ {ds : List D} {cs : List Value}, RepE J w k ds cs → ds.length * k ≤ cs.length
  | [], cs, _ => by simp
  | d :: ds, cs, h => by
    simp only [RepE] at h
    have := RepE.len h.2.2
    simp only [List.length_drop] at this
    simp only [List.length_cons, Nat.add_mul, Nat.one_mul]
    omega

mutual
/-- No slice is longer than 2^60. -/
def okD : D → Prop
  | .agg ds => okL ds
  | .sl _ ds => ds.length ≤ 1152921504606846976 ∧ okL ds
  | .ifc _ d => okD d
  | _ => True
def okL : List D → Prop
  | [] => True
  | d :: ds => okD d ∧ okL ds
 end

mutual
theorem RepC.ok {J : Nat → Prop} {w : World} : ∀ (d : D) (cs : List Value), RepC J w d cs → okD d
  | .int k n, cs, h => trivial
  | .bool b, cs, h => trivial
  | .str s, cs, h => trivial
  | .agg ds, cs, h => by simp only [RepC] at h; simp only [okD]; exact RepA.ok ds cs h
  | .sl k ds, cs, h => by
    simp only [RepC] at h
    obtain ⟨a, cap, _, h2, h3⟩ := h
    simp only [okD]
    refine ⟨h2.2, ?_⟩
    rcases h3 with h3 | ⟨b, off, c, T, fz, _, _, _, he⟩
    · subst h3; trivial
    · exact RepE.ok k ds _ he
  | .ifc t d, cs, h => by
    simp only [RepC] at h
    obtain ⟨v, _, h2⟩ := h
    simp only [okD]
    exact RepC.ok d [v] h2
theorem RepA.ok {J : Nat → Prop} {w : World} : ∀ (ds : List D) (cs : List Value), RepA J w ds cs → okL ds
  | [], cs, h => trivial
  | d :: ds, cs, h => by
    simp only [RepA] at h
    obtain ⟨x, y, _, h1, h2⟩ := h
    exact ⟨RepC.ok d x h1, RepA.ok ds y h2⟩
theorem RepE.ok {J : Nat → Prop} {w : World} (k : Nat) : ∀ (ds : List D) (cs : List Value), RepE J w k ds cs → okL ds
  | [], cs, h => trivial
  | d :: ds, cs, h => by
    simp only [RepE] at h
    exact ⟨RepC.ok d _ h.2.1, RepE.ok k ds _ h.2.2⟩
 end

theorem Rep.ok {J : Nat → Prop} {w : World} {v : Value} {d : D} (h : Rep J w v d) : okD d := by
  cases d with
  | agg ds => obtain ⟨cs, _, h2⟩ := h; simp only [okD]; exact RepA.ok ds _ h2
  | int k n => trivial
  | bool b => trivial
  | str s => trivial
  | sl k ds => exact RepC.ok _ _ h
  | ifc t d => exact RepC.ok _ _ h

theorem okL_get : ∀ {ds : List D} {i : Nat} {d : D}, okL ds → ds[i]? = some d → okD d
  | [], i, d, _, h => by simp at h
  | d0 :: ds, 0, d, h, hi => by simp at hi; subst hi; exact h.1
  | d0 :: ds, i + 1, d, h, hi => okL_get h.2 (by simpa using hi)

/-- Symbolic values. 'loc i off': a pointer to own block i; 'mp i': the map that own block i holds; 'yld i': the function that a round of the loop is asked for with, whose record own block i is. -/
inductive SV where
  | v (x : Value)
  | loc (i off : Nat)
  | fn (f : Fn) (first caps : List SV)
  | agg (cs : List SV)
  | tup (xs : List SV)
  | mp (i : Nat)
  | ifc (t : TypeId) (s : SV)
  | yld (i : Nat)

/-- The base address of an own block. -/
structure Base where
  block : Nat
  off : Nat

instance : Inhabited Base := ⟨⟨0, 0⟩⟩

mutual
def SV.den (ℓ : List Base) : SV → Value
  | .v x => x
  | .loc i off => .pointer (some ⟨(ℓ.getD i default).block, (ℓ.getD i default).off + off, none⟩)
  | .fn f first caps => .func f (SV.denL ℓ first).toArray (SV.denL ℓ caps).toArray
  | .agg cs => .agg (SV.denL ℓ cs).toArray
  | .tup xs => .tuple (SV.denL ℓ xs).toArray
  | .mp i => .map (some (ℓ.getD i default).block)
  | .ifc t s => .iface t (SV.den ℓ s)
  | .yld i => .func (.yield (ℓ.getD i default).block) #[] #[]
def SV.denL (ℓ : List Base) : List SV → List Value
  | [] => []
  | s :: ss => SV.den ℓ s :: SV.denL ℓ ss
 end

theorem SV.denL_eq (ℓ : List Base) : ∀ (l : List SV), SV.denL ℓ l = l.map (SV.den ℓ)
  | [] => rfl
  | s :: ss => by simp only [SV.denL, List.map_cons, SV.denL_eq ℓ ss]

theorem SV.denL_append (ℓ : List Base) (a b : List SV) : SV.denL ℓ (a ++ b) = SV.denL ℓ a ++ SV.denL ℓ b := by simp [SV.denL_eq]
theorem SV.denL_length (ℓ : List Base) (a : List SV) : (SV.denL ℓ a).length = a.length := by simp [SV.denL_eq]

mutual
/-- Only own blocks below n are named. -/
def SV.wf (n : Nat) : SV → Bool
  | .v _ => true
  | .loc i _ => Nat.blt i n
  | .fn _ first caps => SV.wfL n first && SV.wfL n caps
  | .agg cs => SV.wfL n cs
  | .tup xs => SV.wfL n xs
  | .mp i => Nat.blt i n
  | .ifc _ s => SV.wf n s
  | .yld i => Nat.blt i n
def SV.wfL (n : Nat) : List SV → Bool
  | [] => true
  | s :: ss => SV.wf n s && SV.wfL n ss
 end

theorem blt_true {i n : Nat} : Nat.blt i n = true ↔ i < n := by simp [Nat.blt_eq]

mutual
theorem SV.den_congr {n : Nat} {ℓ ℓ' : List Base} (h : ∀ i, i < n → ℓ'.getD i default = ℓ.getD i default) : ∀ (s : SV), s.wf n = true → s.den ℓ' = s.den ℓ
  | .v _, _ => rfl
  | .loc i off, hw => by simp only [SV.wf, blt_true] at hw; simp only [SV.den, h i hw]
  | .fn f first caps, hw => by
    simp only [SV.wf, Bool.and_eq_true] at hw
    simp only [SV.den, SV.denL_congr h first hw.1, SV.denL_congr h caps hw.2]
  | .agg cs, hw => by simp only [SV.wf] at hw; simp only [SV.den, SV.denL_congr h cs hw]
  | .tup xs, hw => by simp only [SV.wf] at hw; simp only [SV.den, SV.denL_congr h xs hw]
  | .mp i, hw => by simp only [SV.wf, blt_true] at hw; simp only [SV.den, h i hw]
  | .ifc t s, hw => by simp only [SV.wf] at hw; simp only [SV.den, SV.den_congr h s hw]
  | .yld i, hw => by simp only [SV.wf, blt_true] at hw; simp only [SV.den, h i hw]
theorem SV.denL_congr {n : Nat} {ℓ ℓ' : List Base} (h : ∀ i, i < n → ℓ'.getD i default = ℓ.getD i default) : ∀ (l : List SV), SV.wfL n l = true → SV.denL ℓ' l = SV.denL ℓ l
  | [], _ => rfl
  | s :: ss, hw => by
    simp only [SV.wfL, Bool.and_eq_true] at hw
    simp only [SV.denL, SV.den_congr h s hw.1, SV.denL_congr h ss hw.2]
 end

mutual
theorem SV.wf_mono {n m : Nat} (h : n ≤ m) : ∀ (s : SV), s.wf n = true → s.wf m = true
  | .v _, _ => rfl
  | .loc i off, hw => by simp only [SV.wf, blt_true] at hw ⊢; omega
  | .fn f first caps, hw => by
    simp only [SV.wf, Bool.and_eq_true] at hw ⊢
    exact ⟨SV.wfL_mono h first hw.1, SV.wfL_mono h caps hw.2⟩
  | .agg cs, hw => by simp only [SV.wf] at hw ⊢; exact SV.wfL_mono h cs hw
  | .tup xs, hw => by simp only [SV.wf] at hw ⊢; exact SV.wfL_mono h xs hw
  | .mp i, hw => by simp only [SV.wf, blt_true] at hw ⊢; omega
  | .ifc t s, hw => by simp only [SV.wf] at hw ⊢; exact SV.wf_mono h s hw
  | .yld i, hw => by simp only [SV.wf, blt_true] at hw ⊢; omega
theorem SV.wfL_mono {n m : Nat} (h : n ≤ m) : ∀ (l : List SV), SV.wfL n l = true → SV.wfL m l = true
  | [], _ => rfl
  | s :: ss, hw => by
    simp only [SV.wfL, Bool.and_eq_true] at hw ⊢
    exact ⟨SV.wf_mono h s hw.1, SV.wfL_mono h ss hw.2⟩
 end

theorem SV.wfL_iff {n : Nat} : ∀ {l : List SV}, SV.wfL n l = true ↔ ∀ s ∈ l, s.wf n = true
  | [] => by simp [SV.wfL]
  | s :: ss => by simp only [SV.wfL, Bool.and_eq_true, SV.wfL_iff (l := ss)]; simp

mutual
/-- Own blocks renumbered. -/
def SV.ren (r : Nat → Nat) : SV → SV
  | .v x => .v x
  | .loc i off => .loc (r i) off
  | .fn f first caps => .fn f (SV.renL r first) (SV.renL r caps)
  | .agg cs => .agg (SV.renL r cs)
  | .tup xs => .tup (SV.renL r xs)
  | .mp i => .mp (r i)
  | .ifc t s => .ifc t (SV.ren r s)
  | .yld i => .yld (r i)
def SV.renL (r : Nat → Nat) : List SV → List SV
  | [] => []
  | s :: ss => SV.ren r s :: SV.renL r ss
 end

mutual
theorem SV.den_ren {n : Nat} {ℓ ℓ' : List Base} {r : Nat → Nat} (h : ∀ i, i < n → ℓ.getD (r i) default = ℓ'.getD i default) : ∀ (s : SV), s.wf n = true → (s.ren r).den ℓ = s.den ℓ'
  | .v _, _ => rfl
  | .loc i off, hw => by simp only [SV.wf, blt_true] at hw; simp only [SV.ren, SV.den, h i hw]
  | .fn f first caps, hw => by
    simp only [SV.wf, Bool.and_eq_true] at hw
    simp only [SV.ren, SV.den, SV.denL_ren h first hw.1, SV.denL_ren h caps hw.2]
  | .agg cs, hw => by simp only [SV.wf] at hw; simp only [SV.ren, SV.den, SV.denL_ren h cs hw]
  | .tup xs, hw => by simp only [SV.wf] at hw; simp only [SV.ren, SV.den, SV.denL_ren h xs hw]
  | .mp i, hw => by simp only [SV.wf, blt_true] at hw; simp only [SV.ren, SV.den, h i hw]
  | .ifc t s, hw => by simp only [SV.wf] at hw; simp only [SV.ren, SV.den, SV.den_ren h s hw]
  | .yld i, hw => by simp only [SV.wf, blt_true] at hw; simp only [SV.ren, SV.den, h i hw]
theorem SV.denL_ren {n : Nat} {ℓ ℓ' : List Base} {r : Nat → Nat} (h : ∀ i, i < n → ℓ.getD (r i) default = ℓ'.getD i default) : ∀ (l : List SV), SV.wfL n l = true → SV.denL ℓ (SV.renL r l) = SV.denL ℓ' l
  | [], _ => rfl
  | s :: ss, hw => by
    simp only [SV.wfL, Bool.and_eq_true] at hw
    simp only [SV.renL, SV.denL, SV.den_ren h s hw.1, SV.denL_ren h ss hw.2]
 end

mutual
theorem SV.wf_ren {n m : Nat} {r : Nat → Nat} (h : ∀ i, i < n → r i < m) : ∀ (s : SV), s.wf n = true → (s.ren r).wf m = true
  | .v _, _ => rfl
  | .loc i off, hw => by simp only [SV.wf, SV.ren, blt_true] at hw ⊢; exact h i hw
  | .fn f first caps, hw => by
    simp only [SV.wf, SV.ren, Bool.and_eq_true] at hw ⊢
    exact ⟨SV.wfL_ren h first hw.1, SV.wfL_ren h caps hw.2⟩
  | .agg cs, hw => by simp only [SV.wf, SV.ren] at hw ⊢; exact SV.wfL_ren h cs hw
  | .tup xs, hw => by simp only [SV.wf, SV.ren] at hw ⊢; exact SV.wfL_ren h xs hw
  | .mp i, hw => by simp only [SV.wf, SV.ren, blt_true] at hw ⊢; exact h i hw
  | .ifc t s, hw => by simp only [SV.wf, SV.ren] at hw ⊢; exact SV.wf_ren h s hw
  | .yld i, hw => by simp only [SV.wf, SV.ren, blt_true] at hw ⊢; exact h i hw
theorem SV.wfL_ren {n m : Nat} {r : Nat → Nat} (h : ∀ i, i < n → r i < m) : ∀ (l : List SV), SV.wfL n l = true → SV.wfL m (SV.renL r l) = true
  | [], _ => rfl
  | s :: ss, hw => by
    simp only [SV.wfL, SV.renL, Bool.and_eq_true] at hw ⊢
    exact ⟨SV.wf_ren h s hw.1, SV.wfL_ren h ss hw.2⟩
 end

abbrev Env := List (Nat × SV)

def find : Env → Nat → Option SV
  | [], _ => none
  | (n, s) :: r, t => match Nat.beq n t with
    | true => some s
    | false => find r t

def envWf (n : Nat) : Env → Bool
  | [] => true
  | (_, s) :: r => match s.wf n with
    | true => envWf n r
    | false => false

def envRen (r : Nat → Nat) : Env → Env
  | [] => []
  | (t, s) :: e => (t, s.ren r) :: envRen r e

/-- The record of a loop over a function: how many slots the activation has, what is known of them when a round begins; the loop's code; where it stands; the jump that a round has left. -/
structure LoopX where
  N : Nat
  env : Env
  ps : Array Nat
  assign : Code
  body : Code
  state : LoopState
  pend : Option Code

/-- What is known of an own block. 'imm': cells that nobody changes, within some block; 'dead': nothing is known any more; 'lp': the record of a loop over a function; 'iter': a walk over the map that own block i is. -/
inductive Blk where
  | cells (T : TypeId) (cs : List SV)
  | obj (o : Obj)
  | imm (cs : List SV)
  | dead
  | lp (x : LoopX)
  | iter (i since : Nat) (seen : Array Nat) (stepped : Nat)

/-- A slice that the run itself has made and that nobody else holds: it may be appended to. -/
structure Acc where
  v : Value
  k : Nat
  T : TypeId
  ds : List D

structure St where
  own : List Blk
  accs : List Acc
  reps : List (Value × D)

def Blk.mut : Blk → Bool
  | .cells _ _ => true
  | .obj _ => true
  | .lp _ => true
  | .iter .. => true
  | _ => false

def accBlk : Value → List Nat
  | .slice (some a) _ _ => [a.block]
  | _ => []

/-- The blocks that may be written. -/
def mutL : List Base → List Blk → List Nat
  | b :: ℓ, k :: ks => (if k.mut then [b.block] else []) ++ mutL ℓ ks
  | _, _ => []

def mutS (ℓ : List Base) (S : St) : List Nat := mutL ℓ S.own ++ S.accs.flatMap (fun a => accBlk a.v)

def BlkOK (J : Nat → Prop) (ℓ : List Base) (w : World) (b : Base) : Blk → Prop
  | .cells T cs => b.off = 0 ∧ w.heap[b.block]? = some (.cells (SV.denL ℓ cs).toArray T (0, 0))
  | .obj o => b.off = 0 ∧ w.heap[b.block]? = some o
  | .imm cs => J b.block ∧ ∃ c T fz, w.heap[b.block]? = some (.cells c T fz) ∧ ∃ k, (c.toList.drop b.off).take k = SV.denL ℓ cs
  | .dead => True
  | .iter i since seen stepped => b.off = 0 ∧ w.heap[b.block]? = some (.mapIter (some (ℓ.getD i default).block) since seen stepped)
  | .lp x => b.off = 0 ∧ ∃ r : Loop, w.heap[b.block]? = some (.loop r) ∧ r.state = x.state ∧ r.pending = x.pend ∧ r.params = x.ps ∧ r.assign = x.assign ∧ r.body = x.body ∧ r.tmps.size = x.N ∧ ∀ t s, find x.env t = some s → r.tmps.getD t undef = s.den ℓ

def Blk.wf (n : Nat) : Blk → Bool
  | .cells _ cs => SV.wfL n cs
  | .imm cs => SV.wfL n cs
  | .lp x => envWf n x.env
  | .iter i _ _ _ => Nat.blt i n
  | _ => true

def AccOK (J : Nat → Prop) (w : World) (a : Acc) : Prop :=
  (a.v = .slice none 0 0 ∧ a.ds = []) ∨
  ∃ b cap c, a.v = .slice (some ⟨b, 0, none⟩) a.ds.length cap ∧ w.heap[b]? = some (.cells c a.T (0, 0)) ∧ c.size = cap * a.k ∧ (a.ds.length ≤ cap ∧ a.ds.length ≤ 1152921504606846976) ∧ RepE J w a.k a.ds c.toList

theorem envWf_spec {n : Nat} : ∀ {env : Env}, envWf n env = true → ∀ t s, find env t = some s → s.wf n = true
  | [], _, t, s, h => by simp [find] at h
  | (m, s0) :: r, hh, t, s, h => by
    simp only [envWf] at hh
    split at hh
    · rename_i hw
      simp only [find] at h
      split at h
      · cases h; exact hw
      · exact envWf_spec hh t s h
    · cases hh

theorem envWf_mono {n m : Nat} (h : n ≤ m) : ∀ {env : Env}, envWf n env = true → envWf m env = true
  | [], _ => rfl
  | (t, s) :: r, hh => by
    simp only [envWf] at hh ⊢
    split at hh
    · rename_i hw
      rw [SV.wf_mono h s hw]
      exact envWf_mono h hh
    · cases hh

theorem envWf_ren {n m : Nat} {r : Nat → Nat} (h : ∀ i, i < n → r i < m) : ∀ {env : Env}, envWf n env = true → envWf m (envRen r env) = true
  | [], _ => rfl
  | (t, s) :: e, hh => by
    simp only [envWf, envRen] at hh ⊢
    split at hh
    · rename_i hw
      rw [SV.wf_ren h s hw]
      exact envWf_ren h hh
    · cases hh

theorem find_ren {r : Nat → Nat} : ∀ {env : Env} {t : Nat} {s : SV}, find (envRen r env) t = some s → ∃ s0, find env t = some s0 ∧ s = s0.ren r
  | [], t, s, h => by simp [find, envRen] at h
  | (n, s1) :: e, t, s, h => by
    simp only [find, envRen] at h ⊢
    cases hb : Nat.beq n t with
    | true => rw [hb] at h; cases h; exact ⟨s1, rfl, rfl⟩
    | false => rw [hb] at h; exact find_ren h

def Jx (J : Nat → Prop) (m : List Nat) : Nat → Prop := fun b => J b ∧ b ∉ m

/-- The state S describes the world w, its own blocks at ℓ; J: the blocks that may be used at all. -/
structure Good (J : Nat → Prop) (ℓ : List Base) (S : St) (w : World) : Prop where
  len : ℓ.length = S.own.length
  nodup : (mutS ℓ S).Nodup
  lt : ∀ b ∈ mutS ℓ S, b < w.heap.size
  memJ : ∀ b ∈ mutS ℓ S, J b
  wf : ∀ k ∈ S.own, k.wf S.own.length = true
  own : ∀ (i : Nat) (b : Base) (k : Blk), ℓ[i]? = some b → S.own[i]? = some k → BlkOK (Jx J (mutS ℓ S)) ℓ w b k
  accs : ∀ a ∈ S.accs, AccOK (Jx J (mutS ℓ S)) w a
  reps : ∀ p ∈ S.reps, Rep (Jx J (mutS ℓ S)) w p.1 p.2

/-- Nothing of w but the blocks in m has turned. -/
structure Ext (m : List Nat) (w w' : World) : Prop where
  os : w'.os = w.os
  output : w'.output = w.output
  size : w.heap.size ≤ w'.heap.size
  block : ∀ b, b < w.heap.size → b ∉ m → w'.heap[b]? = w.heap[b]?

theorem Ext.refl (m : List Nat) (w : World) : Ext m w w := ⟨rfl, rfl, Nat.le_refl _, fun _ _ _ => rfl⟩
theorem Ext.trans {m : List Nat} {a b c : World} (h : Ext m a b) (k : Ext m b c) : Ext m a c :=
  ⟨k.os.trans h.os, k.output.trans h.output, Nat.le_trans h.size k.size, fun i hi hm => (k.block i (Nat.lt_of_lt_of_le hi h.size) hm).trans (h.block i hi hm)⟩
theorem Ext.mono {m m' : List Nat} {a b : World} (h : Ext m a b) (hm : ∀ x ∈ m, x < a.heap.size → x ∈ m') : Ext m' a b :=
  ⟨h.os, h.output, h.size, fun i hi hn => h.block i hi (fun hx => hn (hm i hx hi))⟩
/-- Two steps: the second may also write what the first has made. -/
theorem Ext.then {m m' : List Nat} {a b c : World} (h : Ext m a b) (k : Ext m' b c) (hm : ∀ x ∈ m', x ∈ m ∨ a.heap.size ≤ x) : Ext m a c :=
  ⟨k.os.trans h.os, k.output.trans h.output, Nat.le_trans h.size k.size, fun i hi hn =>
    (k.block i (Nat.lt_of_lt_of_le hi h.size) (fun hx => by rcases hm i hx with h1 | h1; exact hn h1; omega)).trans (h.block i hi hn)⟩

theorem lt_of_get {w : World} {b : Nat} {o : Obj} (h : w.heap[b]? = some o) : b < w.heap.size := by
  rcases Nat.lt_or_ge b w.heap.size with hlt | hge
  · exact hlt
  · simp [Array.getElem?_eq_none hge] at h

end Go.Tr
