/- A region that draws its order: what vcTree says holds in every order (vcTree_sound). Condition: the tree fits the region (treeOK, decided by reckoning) and the program follows mixed orders. -/
import Derived.Test.YtjjgfenincdgpaaFwJ
namespace Go.Tr
open Go
set_option linter.unusedSimpArgs false

section
variable {P : Program} {ops : Array Oper} {Q : Exit → Act → World → Prop}

/-- What comes before an operation, step by step. -/
theorem before_spec (ops : Array Oper) : (Region.before ops).size = ops.size ∧ ∀ j, j < ops.size → ∃ o, ops[j]? = some o ∧ ∀ p, ((Region.before ops).getD j 0).testBit p = true → ∃ e ∈ o.after, Region.binds .any e = true ∧ (p = e.on ∨ ((Region.before ops).getD e.on 0).testBit p = true) := by
  have key : (Region.before ops).size = ops.size ∧ ∀ j, j < ops.size → ∃ o, ops[j]? = some o ∧ ∀ p, ((Region.before ops).getD j 0).testBit p = true → ∃ e ∈ o.after, Region.binds .any e = true ∧ (p = e.on ∨ (((Region.before ops).getD e.on 0).testBit p = true ∧ e.on < j)) := by
    unfold Region.before
    refine Array.foldl_induction (motive := fun i (acc : Array Nat) => acc.size = i ∧ ∀ j, j < i → ∃ o, ops[j]? = some o ∧ ∀ p, (acc.getD j 0).testBit p = true → ∃ e ∈ o.after, Region.binds .any e = true ∧ (p = e.on ∨ ((acc.getD e.on 0).testBit p = true ∧ e.on < j))) ⟨rfl, fun j hj => by omega⟩ ?_
    intro i acc ⟨hsz, hacc⟩
    have hfold : ∀ (l : List Edge) (s0 : Nat) (p : Nat), (l.foldl (fun s e => if Region.binds .any e then s ||| 2 ^ e.on ||| acc.getD e.on 0 else s) s0).testBit p = true → s0.testBit p = true ∨ ∃ e ∈ l, Region.binds .any e = true ∧ (p = e.on ∨ (acc.getD e.on 0).testBit p = true) := by
      intro l
      induction l with
      | nil => intro s0 p h; exact .inl h
      | cons e l ih =>
        intro s0 p h
        simp only [List.foldl_cons] at h
        rcases ih _ p h with h1 | ⟨e', h1, h2, h3⟩
        · split at h1
          · rename_i hb
            rw [Nat.testBit_or, Nat.testBit_or, Nat.testBit_two_pow] at h1
            simp only [Bool.or_eq_true, decide_eq_true_eq] at h1
            rcases h1 with (h1 | h1) | h1
            · exact .inl h1
            · exact .inr ⟨e, by simp, hb, .inl h1.symm⟩
            · exact .inr ⟨e, by simp, hb, .inr h1⟩
          · exact .inl h1
        · exact .inr ⟨e', by simp [h1], h2, h3⟩
    refine ⟨by simp [hsz], fun j hj => ?_⟩
    have hget : ∀ q, q < i.val → (acc.push (ops[i].after.foldl (fun s e => if Region.binds .any e then s ||| 2 ^ e.on ||| acc.getD e.on 0 else s) 0)).getD q 0 = acc.getD q 0 := by
      intro q hq
      simp only [Array.getD_eq_getD_getElem?, Array.getElem?_push]
      rw [if_neg (by omega)]
    by_cases hji : j = i.val
    · subst hji
      refine ⟨ops[i], by simp, fun p hp => ?_⟩
      have e1 : (acc.push (ops[i].after.foldl (fun s e => if Region.binds .any e then s ||| 2 ^ e.on ||| acc.getD e.on 0 else s) 0)).getD i.val 0 = ops[i].after.foldl (fun s e => if Region.binds .any e then s ||| 2 ^ e.on ||| acc.getD e.on 0 else s) 0 := by
        simp only [Array.getD_eq_getD_getElem?, Array.getElem?_push]
        rw [if_pos (by omega)]; rfl
      rw [e1] at hp
      rw [← Array.foldl_toList] at hp
      rcases hfold _ _ _ hp with h1 | ⟨e, h1, h2, h3⟩
      · simp at h1
      · refine ⟨e, by simpa using h1, h2, ?_⟩
        rcases h3 with h3 | h3
        · exact .inl h3
        · have hlt : e.on < i.val := by
            rcases Nat.lt_or_ge e.on i.val with h4 | h4
            · exact h4
            · rw [Array.getD_eq_getD_getElem?, Array.getElem?_eq_none (by omega)] at h3; simp at h3
          exact .inr ⟨by rw [hget _ hlt]; exact h3, hlt⟩
    · have hlt : j < i.val := by omega
      obtain ⟨o, ho, h⟩ := hacc j hlt
      refine ⟨o, ho, fun p hp => ?_⟩
      rw [hget j hlt] at hp
      obtain ⟨e, h1, h2, h3⟩ := h p hp
      refine ⟨e, h1, h2, ?_⟩
      rcases h3 with h3 | ⟨h3, h4⟩
      · exact .inl h3
      · exact .inr ⟨by rw [hget _ (by omega)]; exact h3, h4⟩
  refine ⟨key.1, fun j hj => ?_⟩
  obtain ⟨o, ho, h⟩ := key.2 j hj
  refine ⟨o, ho, fun p hp => ?_⟩
  obtain ⟨e, h1, h2, h3⟩ := h p hp
  exact ⟨e, h1, h2, h3.imp id (·.1)⟩

def anc (ops : Array Oper) (p q : Nat) : Bool := ((Region.before ops).getD q 0).testBit p

/-- What is listed has all that comes before it listed. -/
def DC (ops : Array Oper) (listed : Array Bool) : Prop := ∀ p q, listed.getD q false = true → anc ops p q = true → listed.getD p false = true

theorem DC.ready {listed : Array Bool} (h : DC ops listed) {j p : Nat} (hj : j ∈ Region.ready .any ops listed) (ha : anc ops p j = true) : listed.getD p false = true := by
  obtain ⟨_, o, ho, hall⟩ := mem_ready.1 hj
  have hlt : j < ops.size := (Array.getElem?_eq_some_iff.1 ho).1
  obtain ⟨o', ho', hb⟩ := (before_spec ops).2 j hlt
  rw [ho] at ho'
  cases ho'
  obtain ⟨e, h1, h2, h3⟩ := hb p ha
  have hl := hall e h1 h2
  rcases h3 with h3 | h3
  · rw [h3]; exact hl
  · exact h p e.on hl h3

theorem DC.step {listed : Array Bool} (h : DC ops listed) {j : Nat} (hj : j ∈ Region.ready .any ops listed) : DC ops (listed.setIfInBounds j true) := by
  intro p q hq ha
  by_cases hqj : q = j
  · subst hqj
    exact getD_set_true (h.ready hj ha)
  · rw [getD_set_ne false (Ne.symm hqj)] at hq
    exact getD_set_true (h p q hq ha)

/-- What is left of a region may be carried out in every order that is still open; on the way what is listed and the world are as C says. -/
def wpAnyC (ro : Option Nat) (P : Program) (ops : Array Oper) (Q : Exit → Act → World → Prop) (C : Array Bool → World → Prop) : Nat → Array Bool → Act → World → Prop
  | 0, listed, a, w => C listed w ∧ Region.ready .any ops listed = [] ∧ Q .normal a w
  | fuel + 1, listed, a, w => C listed w ∧ (Region.ready .any ops listed = [] → Q .normal a w) ∧
    ∀ i ∈ Region.ready .any ops listed, wpOpIn (fen ro) 0 P ops Q i (wpAnyC ro P ops Q C fuel (listed.setIfInBounds i true)) a w

variable {ro : Option Nat}

theorem wpAnyC.cls {C : Array Bool → World → Prop} : ∀ {fuel : Nat} {listed : Array Bool} {a : Act} {w : World}, wpAnyC ro P ops Q C fuel listed a w → C listed w
  | 0, _, _, _, h => h.1
  | _ + 1, _, _, _, h => h.1

/-- Only lists that hold all of l0 matter. -/
theorem wpAnyC.mono {C C' : Array Bool → World → Prop} (l0 : Array Bool) (hC : ∀ l w, (∀ p, l0.getD p false = true → l.getD p false = true) → C l w → C' l w) : ∀ {fuel : Nat} {listed : Array Bool} {a : Act} {w : World}, (∀ p, l0.getD p false = true → listed.getD p false = true) → wpAnyC ro P ops Q C fuel listed a w → wpAnyC ro P ops Q C' fuel listed a w
  | 0, _, _, _, hl, h => ⟨hC _ _ hl h.1, h.2⟩
  | _ + 1, _, _, _, hl, h => ⟨hC _ _ hl h.1, h.2.1, fun i hi => wpOpIn_mono (fun _ _ => wpAnyC.mono l0 hC (fun p hp => getD_set_true (hl p hp))) (h.2.2 i hi)⟩

theorem wpAny_of_C {C : Array Bool → World → Prop} : ∀ {fuel : Nat} {listed : Array Bool} {a : Act} {w : World}, wpAnyC ro P ops Q C fuel listed a w → wpAnyIn (fen ro) 0 P .any ops Q fuel listed a w
  | 0, _, _, _, h => h.2
  | _ + 1, _, _, _, h => ⟨h.2.1, fun i hi => wpOpIn_mono (fun _ _ => wpAny_of_C) (h.2.2 i hi)⟩

/-- While none of U that was not in L is listed, the world is of the class. -/
def Cu (U : List Nat) (L : Array Bool) (Y : World → Prop) (listed : Array Bool) (w : World) : Prop := (∀ u ∈ U, L.getD u false = false → listed.getD u false = false) → Y w

/-- Of the worlds in C: the operation, if it is wanted, yields v and writes nothing. -/
structure YieldsC (P : Program) (ops : Array Oper) (C : World → Prop) (o : Oper) (v : Value) (a : Act) : Prop where
  yes : Region.wanted o (yielded ops a.tmps) = true → ∀ w, C w → (execOp a.eval o).run P w = .ok (.value v) w
  no : Region.wanted o (yielded ops a.tmps) = false → v = undef

theorem YieldsC.yields {C : World → Prop} {o : Oper} {v : Value} {a : Act} (hw : Region.wanted o (yielded ops a.tmps) = true) (h : ∀ w, C w → (execOp a.eval o).run P w = .ok (.value v) w) : YieldsC P ops C o v a :=
  ⟨fun _ => h, fun hn => by rw [hw] at hn; cases hn⟩
theorem YieldsC.idle {C : World → Prop} {o : Oper} {a : Act} (hw : Region.wanted o (yielded ops a.tmps) = false) : YieldsC P ops C o undef a :=
  ⟨fun hn => (by rw [hw] at hn; cases hn), fun _ => rfl⟩

def noDefers (ops : Array Oper) : Bool := ops.toList.all fun o => match o.op with
  | .defer _ => false
  | _ => true

theorem noDefers_spec (h : noDefers ops = true) {i : Nat} {o : Oper} (hi : ops[i]? = some o) : ∀ c, o.op ≠ .defer c := by
  intro c hc
  simp only [noDefers, List.all_eq_true] at h
  have := h o (by simpa using Array.mem_of_getElem? hi)
  rw [hc] at this
  cases this

theorem YieldsC.takes {C : World → Prop} {i : Nat} {o : Oper} {v : Value} {a : Act} {K : Act → World → Prop} {w : World} (hy : YieldsC P ops C o v a) (hi : ops[i]? = some o) (hnd : ∀ c, o.op ≠ .defer c) (hw : C w) (h : K (a.put o.dst v) w) : wpOpIn (fen ro) 0 P ops Q i K a w := by
  unfold wpOpIn
  rw [hi]
  show if _ then _ else _
  split
  · rename_i hwant
    refine up_wp hnd ?_
    unfold upOp
    rw [hy.yes hwant w hw]
    exact h
  · rename_i hwant
    have e := hy.no (by simpa using hwant)
    subst e
    exact ⟨fun _ _ => trivial, h⟩

/-- An operation's answer is met as well if another one's slot is filled behind it. -/
theorem upon_later {oi oj : Oper} {v : Value} {a : Act} {Y : Act → Prop} {K : Act → World → Prop} (hY : ∀ ds u, Y ({ a with defers := ds }.put oj.dst u)) (hd : ∀ ds u, ({ a with defers := ds }.put oi.dst v).put oj.dst u = ({ a with defers := ds }.put oj.dst u).put oi.dst v)
    (hQ : ∀ c a w, Q (.panic c) (a.put oi.dst v) w → Q (.panic c) a w) : ∀ r : Result Next, oj.uponIn (fen ro) 0 P (a.put oi.dst v) K Q r → oj.uponIn (fen ro) 0 P a (fun a' w' => Y a' ∧ K (a'.put oi.dst v) w') Q r := by
  have back : ∀ u w', K ((a.put oi.dst v).put oj.dst u) w' → Y (a.put oj.dst u) ∧ K ((a.put oj.dst u).put oi.dst v) w' := fun u w' h => ⟨hY a.defers u, by rw [← hd a.defers u]; exact h⟩
  have ends : ∀ (e : Ending) (w' : World), (match e with
      | .returned u => K ((a.put oi.dst v).put oj.dst u) w'
      | .panicked chain => Q (.panic chain) (a.put oi.dst v) w'
      | .outgrown => LetsOut Q) → (match e with
      | .returned u => Y (a.put oj.dst u) ∧ K ((a.put oj.dst u).put oi.dst v) w'
      | .panicked chain => Q (.panic chain) a w'
      | .outgrown => LetsOut Q) := by
    intro e w' h
    cases e with
    | returned u => exact back u w' h
    | panicked ch => exact hQ _ _ _ h
    | outgrown => exact h
  intro r h
  cases r with
  | halt x w' =>
    cases x with
    | panic u => exact hQ _ _ _ h
    | _ => exact h
  | ok nx w' =>
    cases nx with
    | value u => exact back u w' h
    | skip => exact back undef w' h
    | defer d =>
      refine ⟨hY _ _, ?_⟩
      rw [← hd, ← Act.put_defers]
      exact h
    | enter f as => exact ⟨h.1, CallsIn.mono h.2 (fun e w'' he => by have := ends e w'' (by cases e <;> exact he); cases e <;> exact this)⟩
    | round l f tmps assign body => exact ⟨h.1, RoundIn.mono h.2 (fun e w'' he => by have := ends e w'' (by cases e <;> exact he); cases e <;> exact this)⟩
    | row s as => exact ⟨h.1, RowsIn.mono h.2 (fun u w'' he => back u w'' he)⟩
    | _ => exact h

/-- Filling one slot and carrying out an operation that is apart from it may change places. -/
theorem wpOp_swap {C : World → Prop} {j : Nat} {oi oj : Oper} {v : Value} (hj : ops[j]? = some oj) (hap : oi.apart ops oj = true)
    (hsi : ∀ cs b, oi.op ≠ .select cs b) (hsj : ∀ cs b, oj.op ≠ .select cs b) (hndj : ∀ c, oj.op ≠ .defer c)
    (hQ : ∀ c a w, Q (.panic c) (a.put oi.dst v) w → Q (.panic c) a w) {K : Act → World → Prop} {a : Act} {w : World}
    (hy : YieldsC P ops C oi v a) (h : wpOpIn (fen ro) 0 P ops Q j K (a.put oi.dst v) w) :
    wpOpIn (fen ro) 0 P ops Q j (fun a' w' => YieldsC P ops C oi v a' ∧ K (a'.put oi.dst v) w') a w := by
  obtain ⟨h1, h2, h3⟩ := Oper.apart_spec hap
  have hY : ∀ ds u, YieldsC P ops C oi v ({ a with defers := ds }.put oj.dst u) := by
    intro ds u
    have hwe := wanted_put oi { a with defers := ds } oj.dst u h3
    refine ⟨fun hw w hc => ?_, fun hw => hy.no (by rw [← hw]; exact hwe.symm)⟩
    rw [execOp_put oi hsi { a with defers := ds } oj.dst u h3]
    exact hy.yes (by rw [← hw]; exact hwe.symm) w hc
  have hd : ∀ ds u, ({ a with defers := ds }.put oi.dst v).put oj.dst u = ({ a with defers := ds }.put oj.dst u).put oi.dst v := fun ds u => Act.put_comm _ v u h2
  unfold wpOpIn at h ⊢
  rw [hj] at h ⊢
  have hwe := wanted_put oj a oi.dst v h1
  simp only [hwe] at h
  show if _ then _ else _
  split
  · rename_i hw
    rw [if_pos hw] at h
    refine up_wp hndj ?_
    have h' := h.2
    rw [Oper.semAt_eq _ _ _ hndj, execOp_put oj hsj a oi.dst v h1] at h'
    exact upon_later hY hd hQ _ h'
  · rename_i hw
    rw [if_neg hw] at h
    exact ⟨fun _ _ => trivial, hY a.defers _, by rw [← hd a.defers]; exact h.2⟩

/-- An operation that only reads may be taken first, while none of U has been carried out. -/
theorem wpAnyC_take {U : List Nat} {L : Array Bool} {Y : World → Prop} {i : Nat} {oi : Oper} {v : Value} (hi : ops[i]? = some oi)
    (hs : Region.noSelect ops = true) (hnd : noDefers ops = true) (hiU : i ∉ U) (hanc : ∀ u ∈ U, L.getD u false = false → anc ops i u = true) (hQ : ∀ c a w, Q (.panic c) (a.put oi.dst v) w → Q (.panic c) a w) :
    ∀ (fuel : Nat) (listed : Array Bool) (a : Act) (w : World), DC ops listed → Region.free .any ops listed i = true → (Region.ready .any ops listed).contains i = true → YieldsC P ops Y oi v a →
      wpAnyC ro P ops Q (Cu U L Y) fuel (listed.setIfInBounds i true) (a.put oi.dst v) w → wpAnyC ro P ops Q (Cu U L Y) (fuel + 1) listed a w := by
  have hsel := Region.noSelect_spec hs
  -- U's part of what is listed is the same with i and without
  have same : ∀ (listed : Array Bool), (∀ u ∈ U, L.getD u false = false → listed.getD u false = false) → ∀ u ∈ U, L.getD u false = false → (listed.setIfInBounds i true).getD u false = false := by
    intro listed h u hu hl
    rw [getD_set_ne false (fun e => hiU (by rw [e]; exact hu))]
    exact h u hu hl
  have notlisted : ∀ {listed : Array Bool} {k : Nat}, k ∈ Region.ready .any ops listed → listed.getD k false = false := by
    intro listed k hk
    have h0 := (mem_ready.1 hk).1
    rcases Nat.lt_or_ge k listed.size with h | h
    · simpa [h] using h0
    · simp [Array.getElem?_eq_none h]
  -- where i waits, none of U has been carried out: they come behind it
  have calm : ∀ {listed : Array Bool} {w : World}, DC ops listed → i ∈ Region.ready .any ops listed → Cu U L Y (listed.setIfInBounds i true) w → Y w := by
    intro listed w hdc hr h
    refine h (same listed fun u hu hl => ?_)
    cases hlu : listed.getD u false with
    | false => rfl
    | true =>
      have h1 := hdc i u hlu (hanc u hu hl)
      rw [notlisted hr] at h1
      cases h1
  -- with what has to be apart from i in place of 'free'
  have main : ∀ (fuel : Nat) (listed : Array Bool) (a : Act) (w : World), DC ops listed →
      (∀ j oj, ops[j]? = some oj → j ≠ i → listed.getD j true = false → (∀ e ∈ oj.after, Region.binds .any e = true → e.on ≠ i) → oi.apart ops oj = true) → i ∈ Region.ready .any ops listed → YieldsC P ops Y oi v a →
      wpAnyC ro P ops Q (Cu U L Y) fuel (listed.setIfInBounds i true) (a.put oi.dst v) w → wpAnyC ro P ops Q (Cu U L Y) (fuel + 1) listed a w := by
    intro fuel
    induction fuel with
    | zero =>
      intro listed a w hdc _ hr hy H
      refine ⟨fun hu => H.1 (same listed hu), fun he => (List.not_mem_nil (he ▸ hr)).elim, fun j hj => ?_⟩
      rcases Decidable.em (j = i) with e | e
      · subst e; exact hy.takes hi (noDefers_spec hnd hi) (calm hdc hr H.1) H
      · have hm := ready_mono hj e
        rw [H.2.1] at hm
        exact (List.not_mem_nil hm).elim
    | succ fuel ih =>
      intro listed a w hdc hap hr hy H
      refine ⟨fun hu => H.1 (same listed hu), fun he => (List.not_mem_nil (he ▸ hr)).elim, fun j hj => ?_⟩
      rcases Decidable.em (j = i) with e | e
      · subst e; exact hy.takes hi (noDefers_spec hnd hi) (calm hdc hr H.1) H
      · obtain ⟨hjun, oj, hoj, hall⟩ := mem_ready.1 hj
        have hnoti : ∀ e' ∈ oj.after, Region.binds .any e' = true → e'.on ≠ i := by
          intro e' he' hb hei
          have h1 := hall e' he' hb
          rw [hei, notlisted hr] at h1
          cases h1
        have hsw := wpOp_swap hoj (hap j oj hoj e hjun hnoti) (fun cs b => hsel i oi cs b hi) (fun cs b => hsel j oj cs b hoj) (noDefers_spec hnd hoj) hQ hy (H.2.2 j (ready_mono hj e))
        refine wpOpIn_mono (fun a' w' h3 => ih (listed.setIfInBounds j true) a' w' (hdc.step hj) ?_ (ready_mono hr (Ne.symm e)) h3.1 ?_) hsw
        · intro k ok hk hki hun hno
          refine hap k ok hk hki ?_ hno
          rcases Decidable.em (j = k) with e2 | e2
          · subst e2; exact hjun
          · rwa [getD_set_ne true e2] at hun
        · rw [Array.setIfInBounds_comm _ _ e]
          exact h3.2
  intro fuel listed a w hdc hf hr hy H
  exact main fuel listed a w hdc (Region.free_spec hi hf) (by simpa using hr) hy H

/-- The operations ps can be taken first, one after the other. -/
def psOK (ops : Array Oper) (U : List Nat) : List Nat → Array Bool → Option (Array Bool)
  | [], listed => some listed
  | p :: ps, listed => if (Region.free .any ops listed p && (Region.ready .any ops listed).contains p) && (!memN p U && U.all (fun u => listed.getD u false || anc ops p u)) then psOK ops U ps (listed.setIfInBounds p true) else none

mutual
def treeFits (ops : Array Oper) (U : List Nat) : DTree → Array Bool → Nat → Bool
  | .leaf ps, listed, fuel => match psOK ops U ps listed with
    | some l => decide (Region.ready .any ops l = []) && Nat.ble ps.length fuel
    | none => false
  | .node ps cs, listed, fuel => match psOK ops U ps listed with
    | some l => (decide (Region.ready .any ops l = cs.map (·.1)) && (Nat.ble (ps.length + 1) fuel && !cs.isEmpty)) && treesFit ops U cs l (fuel - ps.length - 1)
    | none => false
def treesFit (ops : Array Oper) (U : List Nat) : List (Nat × DTree) → Array Bool → Nat → Bool
  | [], _, _ => true
  | (e, t) :: r, l, fuel => treeFits ops U t (l.setIfInBounds e true) fuel && treesFit ops U r l fuel
 end

theorem treesFit_mem {U : List Nat} {l : Array Bool} {fuel : Nat} : ∀ {cs : List (Nat × DTree)}, treesFit ops U cs l fuel = true → ∀ p ∈ cs, treeFits ops U p.2 (l.setIfInBounds p.1 true) fuel = true
  | [], _, p, hp => by simp at hp
  | (e, t) :: r, h, p, hp => by
    simp only [treesFit, Bool.and_eq_true] at h
    rcases List.mem_cons.1 hp with h1 | h1
    · subst h1; exact h.1
    · exact treesFit_mem h.2 p h1

theorem memN_iff {n : Nat} : ∀ {l : List Nat}, memN n l = true ↔ n ∈ l
  | [] => by simp [memN]
  | m :: r => by
    simp only [memN, List.mem_cons]
    split
    · rename_i h; have := Nat.eq_of_beq_eq_true h; simp [this]
    · rename_i h
      rw [memN_iff (l := r)]
      constructor
      · exact .inr
      · rintro (e | e)
        · subst e; simp at h
        · exact e

def treeOK (ops : Array Oper) (t : DTree × List Nat) : Bool := (Region.noSelect ops && noDefers ops) && treeFits ops t.2 t.1 (Array.replicate ops.size false) ops.size

end

section
variable {ro : Option Nat} {P : Program} {tt : Tab} {c : Cx} {ℓ : List Base} {gen : Gen} {env : Env} {S : St} {a : Act} {w : World} {ops : Array Oper}

/-- The worlds in which the own cells of S hold what S says. -/
def Cls (S : St) (ℓ : List Base) (w : World) : Prop := ∀ i cs, cellsIn (nth S.own i) = some cs → SV.wfL S.own.length cs = true ∧ ∃ b, ℓ[i]? = some b ∧ ∀ j v, (SV.denL ℓ cs)[j]? = some v → w.cell? ⟨b.block, b.off + j, none⟩ = some v

theorem Good.cls {J : Nat → Prop} (h : Good J ℓ S w) : Cls S ℓ w := fun _ _ hk => h.cellsAt hk

theorem Cls.mono {S' : St} {ℓ' : List Base} {J : Nat → Prop} (hG : Good J ℓ S w) (hpre : ℓ <+: ℓ') (hk : OwnKept S S') (w1 : World) (h : Cls S' ℓ' w1) : Cls S ℓ w1 := by
  intro i cs hi
  obtain ⟨hwf, _⟩ := hG.cellsAt hi
  obtain ⟨_, b, hb, hc⟩ := h i cs (hk i cs hi)
  have hlt : i < ℓ.length := by
    rw [hG.len]
    rcases Nat.lt_or_ge i S.own.length with h1 | h1
    · exact h1
    · rw [nth_eq, List.getElem?_eq_none h1] at hi; simp [cellsIn] at hi
  refine ⟨hwf, b, ?_, ?_⟩
  · obtain ⟨t, rfl⟩ := hpre
    rwa [List.getElem?_append_left hlt] at hb
  · intro j v hj
    refine hc j v ?_
    rw [SV.denL_congr (n := S.own.length) (fun k hk' => prefix_getD hpre (by rw [hG.len]; exact hk')) cs hwf]
    exact hj

theorem OwnKept.refl (S : St) : OwnKept S S := fun _ _ h => h

theorem pctx_of (hT : TTOK P tt) (h : Inv c ℓ [] gen env S a w) {al : Atoms} (hal : Holds a al) {w1 : World} (hc : Cls S ℓ w1) : PCtx P tt (Jx (c.Ja a) (mutS ℓ S)) ℓ S.own S.own.length a.eval [] (getter gen env al) w1 := by
  have C := h.pctx (P := P) (tt := tt) hT hal
  exact ⟨hT, C.const, C.get0, C.get1, C.hkn, hc⟩

/-- An operation of the pure kinds: the same in every world. -/
theorem vcRun_pure {o : Oper} {K Kp : SV → St → Prop} (hI : Inv c ℓ [] gen env S a w) (hT : TTOK P tt) (hp : stepPure tt S.own [] (getter gen env []) o.op = none) (hk : isPureAt o.op = true) (h : vcRun P tt [] (getter gen env []) o S K Kp) :
    ∃ r ℓ' S', (∀ w', (execOp a.eval o).run P w' = .ok (.value (r.den ℓ')) w') ∧ r.wf S'.own.length = true ∧ ℓ <+: ℓ' ∧ Good (c.Ja a) ℓ' S' w ∧ (∀ b ∈ mutS ℓ' S', b ∈ mutS ℓ S) ∧ OwnKept S S' ∧ K r S' := by
  have C := hI.pctx (P := P) (tt := tt) (al := []) hT (by simp [Holds])
  have fin : ∀ m : List Base → Sem Value, execOp a.eval o = (do pure (.value (← m ℓ)) : Sem Next) → AtPure P m S K → ∃ r ℓ' S', (∀ w', (execOp a.eval o).run P w' = .ok (.value (r.den ℓ')) w') ∧ r.wf S'.own.length = true ∧ ℓ <+: ℓ' ∧ Good (c.Ja a) ℓ' S' w ∧ (∀ b ∈ mutS ℓ' S', b ∈ mutS ℓ S) ∧ OwnKept S S' ∧ K r S' := by
    intro m he hm
    obtain ⟨r, ℓ', S', hr, hwf, hpre, hg, hf, hok, hK⟩ := hm.sem (c.Ja a) ℓ w hI.good hI.freshJ
    refine ⟨r, ℓ', S', fun w' => ?_, hwf, hpre, hg, hf, hok, hK⟩
    rw [he, Sem.run_bind, hr]; rfl
  unfold vcRun at h
  rw [hp] at h
  cases ho : o.op with
  | indexAddr t x i =>
    rw [ho] at h
    simp only at h
    split at h
    · rename_i sx sy hx hy
      refine fin _ ?_ h
      unfold execOp; rw [ho]; simp only [(C.get0 _ _ hx).2, (C.get0 _ _ hy).2]
    · exact h.elim
  | index t x i =>
    rw [ho] at h
    simp only at h
    split at h
    · rename_i sx sy hx hy
      refine fin _ ?_ h
      unfold execOp; rw [ho]; simp only [(C.get0 _ _ hx).2, (C.get0 _ _ hy).2]
    · exact h.elim
  | field t x f =>
    rw [ho] at h
    simp only at h
    split at h
    · rename_i sx hx
      refine fin _ ?_ h
      unfold execOp; rw [ho]; simp only [(C.get0 _ _ hx).2]
    · exact h.elim
  | slice t x lo hi mx =>
    rw [ho] at h
    simp only at h
    split at h
    · rename_i sx sl sh sm hx hl hh hm
      refine fin _ ?_ h
      unfold execOp; rw [ho]; simp only [(C.get0 _ _ hx).2, mapOpt_sound (C := C) hl, mapOpt_sound (C := C) hh, mapOpt_sound (C := C) hm]
    · exact h.elim
  | binOp op t x y ty =>
    rw [ho] at h
    simp only at h
    split at h
    · rename_i sx sy hx hy
      refine fin _ ?_ h
      unfold execOp; rw [ho]; simp only [(C.get0 _ _ hx).2, (C.get0 _ _ hy).2]
    · exact h.elim
  | unOp op t x =>
    rw [ho] at h
    simp only at h
    split at h
    · rename_i sx hx
      refine fin _ ?_ h
      unfold execOp; rw [ho]; simp only [(C.get0 _ _ hx).2]
    · exact h.elim
  | makeInterface t x =>
    rw [ho] at h
    simp only at h
    split at h
    · rename_i sx hx
      refine fin _ ?_ h
      unfold execOp; rw [ho]; simp only [(C.get0 _ _ hx).2]
    · exact h.elim
  | typeAssert x t as ok =>
    rw [ho] at h
    simp only at h
    split at h
    · rename_i sx hx
      refine fin _ ?_ h
      unfold execOp; rw [ho]; simp only [(C.get0 _ _ hx).2]
    · exact h.elim
  | build t parts =>
    rw [ho] at h
    simp only at h
    split at h
    · rename_i l hl
      have hl' := getParts_sound (C := C) _ _ hl
      have hp : (parts.map fun (i, x) => (i, a.eval x)) = (denParts ℓ l).toArray := by
        rw [← Array.toList_inj, Array.toList_map, hl']
      refine fin _ ?_ h
      unfold execOp; rw [ho]; simp only [hp]
    · exact h.elim
  | call cl =>
    rw [ho] at h hk
    obtain ⟨callee, args, tys⟩ := cl
    cases callee with
    | value f => simp [isPureAt] at hk
    | invoke r m => simp [isPureAt] at hk
    | builtin b =>
      cases b <;> simp only [isPureAt, Bool.false_eq_true] at hk
      all_goals
        simp only at h
        split at h
        · rename_i l hl
          refine fin _ ?_ h
          unfold execOp; rw [ho]
          simp only [resolve, pure_bind, invoke, builtin, args_eq (getAll_sound C _ _ hl).2]
        · exact h.elim
  | _ => rw [ho] at hk; simp [isPureAt] at hk

theorem wpAnyC_done {Q : Exit → Act → World → Prop} {C : Array Bool → World → Prop} {listed : Array Bool} (hr : Region.ready .any ops listed = []) (hC : C listed w) (h : Q .normal a w) : ∀ fuel, wpAnyC ro P ops Q C fuel listed a w
  | 0 => ⟨hC, hr, h⟩
  | _ + 1 => ⟨hC, fun _ => h, by rw [hr]; simp⟩

/-- Panics do not look at the frame. -/
def NoFrame (Q : Exit → Act → World → Prop) : Prop := ∀ ch a w d v, Q (.panic ch) (Act.put a d v) w → Q (.panic ch) a w

/-- A later stage's class gives an earlier one's. -/
theorem cu_weaken {U : List Nat} {L L' : Array Bool} {Y Y' : World → Prop} (hL : ∀ u, L.getD u false = true → L'.getD u false = true) (h : (∀ u ∈ U, L.getD u false = false → L'.getD u false = false) → ∀ w, Y' w → Y w) (l : Array Bool) (w : World) (hl : ∀ p, L'.getD p false = true → l.getD p false = true) (hc : Cu U L' Y' l w) : Cu U L Y l w := by
  intro hu
  have hnew : ∀ u ∈ U, L.getD u false = false → L'.getD u false = false := by
    intro u hu1 hu2
    cases hlu : L'.getD u false with
    | false => rfl
    | true => have := hl u hlu; rw [hu u hu1 hu2] at this; cases this
  refine h hnew w (hc (fun u hu1 hu2 => hu u hu1 ?_))
  cases hlu : L.getD u false with
  | false => rfl
  | true => rw [hL u hlu] at hu2; cases hu2

theorem vcPs_sound {Q : Exit → Act → World → Prop} (hQ : NoFrame Q) {N : Nat} (hN : c.N = N) (hT : TTOK P tt) (hs : Region.noSelect ops = true) (hnd : noDefers ops = true) {U : List Nat} {K : Gen → Env → St → Prop} {l : Array Bool} {fuel : Nat} :
    ∀ (ps : List Nat) (listed : Array Bool) (ℓ : List Base) (gen : Gen) (env : Env) (S : St) (a : Act) (w : World), DC ops listed → psOK ops U ps listed = some l → Inv c ℓ [] gen env S a w → vcPs P tt N ops ps gen env S K →
      (∀ ℓ' gen' env' S' a', DC ops l → Inv c ℓ' [] gen' env' S' a' w → K gen' env' S' → wpAnyC ro P ops Q (Cu U l (Cls S' ℓ')) fuel l a' w) → wpAnyC ro P ops Q (Cu U listed (Cls S ℓ)) (fuel + ps.length) listed a w
  | [], listed, ℓ, gen, env, S, a, w, hdc, hps, hI, h, hk => by
    simp only [psOK, Option.some.injEq] at hps
    subst hps
    exact hk ℓ gen env S a hdc hI h
  | p :: ps, listed, ℓ, gen, env, S, a, w, hdc, hps, hI, h, hk => by
    simp only [psOK] at hps
    split at hps
    · rename_i hfr
      simp only [Bool.and_eq_true, Bool.not_eq_true', List.all_eq_true, Bool.or_eq_true] at hfr
      obtain ⟨⟨hfree, hready⟩, hpU, hpanc⟩ := hfr
      have hpU' : p ∉ U := fun hm => by rw [memN_iff.2 hm] at hpU; cases hpU
      have hready' : p ∈ Region.ready .any ops listed := by simpa using hready
      have hanc : ∀ u ∈ U, listed.getD u false = false → anc ops p u = true := fun u hu hl => (hpanc u hu).resolve_left (by rw [hl]; simp)
      have hdc' := hdc.step hready'
      simp only [vcPs_cons, vcPone] at h
      split at h
      · exact h.elim
      · rename_i o ho
        have ho' : ops[p]? = some o := by rw [nth_eq] at ho; simpa using ho
        have hsub : ∀ u, listed.getD u false = true → (listed.setIfInBounds p true).getD u false = true := fun u hu => getD_set_true hu
        have take : ∀ (v : Value) (a' : Act) (S' : St) (ℓ' : List Base), a' = a.put o.dst v → YieldsC P ops (Cls S ℓ) o v a → (∀ w1, Cls S' ℓ' w1 → Cls S ℓ w1) → wpAnyC ro P ops Q (Cu U (listed.setIfInBounds p true) (Cls S' ℓ')) (fuel + ps.length) (listed.setIfInBounds p true) a' w → wpAnyC ro P ops Q (Cu U listed (Cls S ℓ)) (fuel + (p :: ps).length) listed a w := by
          intro v a' S' ℓ' ha' hy hw hh
          subst ha'
          have hh' := wpAnyC.mono (listed.setIfInBounds p true) (cu_weaken (U := U) (L := listed) (Y := Cls S ℓ) hsub (fun _ => hw)) (fun _ h => h) hh
          exact wpAnyC_take ho' hs hnd hpU' hanc (fun ch a w => hQ ch a w _ _) _ listed a w hdc hfree hready hy hh'
        split at h
        · rename_i hg
          have hw : Region.wanted o (yielded ops a.tmps) = true := by simp [Region.wanted, hg]
          split at h
          · rename_i s hsp
            have hC := hI.pctx (P := P) (tt := tt) (al := []) hT (by simp [Holds])
            have hsound := stepPure_sound hC o hsp
            obtain ⟨env', hk2, hI2⟩ := putK_sound hN hI hsound.1 h
            refine take (s.den ℓ) _ S ℓ rfl (.yields hw fun w1 hc1 => ?_) (fun _ h => h) (vcPs_sound hQ hN hT hs hnd ps _ ℓ gen env' S _ w hdc' hps hI2 hk2 hk)
            exact (stepPure_sound (pctx_of hT hI (by simp [Holds]) hc1) o hsp).2
          · rename_i hsp
            split at h
            · rename_i hat
              obtain ⟨r, ℓ', S', hr, hwf, hpre, hg', hf, hkept, hk1⟩ := vcRun_pure hI hT hsp hat h
              have hst : Stepped (c.Ja a) ℓ S w ℓ' S' w := ⟨hpre, Ext.refl _ _, hg', fun b hb => .inl (hf b hb)⟩
              obtain ⟨env', hk2, hI2⟩ := putK_sound hN (hI.step hst) hwf hk1
              have hih := vcPs_sound hQ hN hT hs hnd ps _ ℓ' gen env' S' _ w hdc' hps hI2 hk2 hk
              exact take (r.den ℓ') _ S' ℓ' rfl (.yields hw fun w1 _ => hr w1) (fun w1 h1 => Cls.mono hI.good hpre hkept w1 h1) hih
            · exact h.elim
        · rename_i j want hg
          split at h
          · exact h.elim
          · rename_i g hgs
            split at h
            · rename_i b tg hgf
              split at h
              · rename_i s hsp
                have hy := yielded_eq (a := a) hgs
                have hwant : Region.wanted o (yielded ops a.tmps) = (yielded ops a.tmps j == some want) := by simp [Region.wanted, hg]
                have hge := gfindE_sound hI hgf
                simp only [SV.den] at hge
                by_cases hw : Region.wanted o (yielded ops a.tmps) = true
                · have hw' := hw
                  rw [hwant] at hw'
                  have hbool : a.tmps.getD g undef = .bool want := by
                    rw [hy] at hw'
                    cases hv : a.tmps.getD g undef with
                    | bool b' => rw [hv] at hw'; simp at hw'; rw [hw']
                    | _ => rw [hv] at hw'; simp at hw'
                  have htg : Holds a tg := by
                    rcases Classical.em (Holds a tg) with h1 | h1
                    · exact h1
                    · have := hge.2 h1; rw [hbool] at this; cases this
                  have hall : Holds a ((g, want) :: tg) := by
                    intro q hq
                    rcases List.mem_cons.1 hq with h1 | h1
                    · subst h1; exact hbool
                    · exact htg q h1
                  have hpure := stepPure_sound (hI.pctx (P := P) (tt := tt) hT hall) o hsp
                  obtain ⟨gen', hk2, hI2⟩ := putG_sound hN hI (v := s.den ℓ) (fun _ => ⟨hpure.1, rfl⟩) (fun hn => (hn hall).elim) h
                  refine take (s.den ℓ) _ S ℓ rfl (.yields hw fun w1 hc1 => ?_) (fun _ h => h) (vcPs_sound hQ hN hT hs hnd ps _ ℓ gen' env S _ w hdc' hps hI2 hk2 hk)
                  exact (stepPure_sound (pctx_of hT hI hall hc1) o hsp).2
                · have hnot : ¬ Holds a ((g, want) :: tg) := by
                    intro hh
                    have := hh (g, want) (by simp)
                    simp only at this
                    rw [this] at hy
                    simp only at hy
                    rw [hwant, hy] at hw
                    simp at hw
                  obtain ⟨gen', hk2, hI2⟩ := putG_sound hN hI (s := s) (v := undef) (fun hh => (hnot hh).elim) (fun _ => rfl) h
                  exact take undef _ S ℓ rfl (.idle (by simpa using hw)) (fun _ h => h) (vcPs_sound hQ hN hT hs hnd ps _ ℓ gen' env S _ w hdc' hps hI2 hk2 hk)
              · exact h.elim
            · exact h.elim
    · cases hps

def vcOne (P : Program) (tt : Tab) (N : Nat) (ops : Array Oper) (U : List Nat) (e : Nat) (t : DTree) (gen : Gen) (env : Env) (S : St) (K : Env → St → Prop) (Kp : SV → St → Prop) : Prop :=
  match nth ops.toList e with
  | none => False
  | some o => vcEv P tt N ops U e o gen env S (fun env' S' => vcTree P tt N ops U t gen env' S' K Kp) Kp

theorem vcTrees_all {N : Nat} {U : List Nat} {K : Env → St → Prop} {Kp : SV → St → Prop} : ∀ {cs : List (Nat × DTree)}, vcTrees P tt N ops U cs gen env S K Kp → ∀ p ∈ cs, vcOne P tt N ops U p.1 p.2 gen env S K Kp
  | [], _, p, hp => by simp at hp
  | [(e, t)], h, p, hp => by
    simp only [List.mem_singleton] at hp
    subst hp
    simp only [vcTrees] at h
    exact h
  | (e, t) :: q :: r, h, p, hp => by
    rw [vcTrees] at h
    · rcases List.mem_cons.1 hp with h1 | h1
      · subst h1; exact h.1
      · exact vcTrees_all h.2 p h1
    · simp

mutual
theorem vcTree_any {Q : Exit → Act → World → Prop} (hQf : NoFrame Q) {N : Nat} (hN : c.N = N) (hT : TTOK P tt) (hs : Region.noSelect ops = true) (hnd : noDefers ops = true) {U : List Nat} {K : Env → St → Prop} {Kp : SV → St → Prop} (hQ : OpsPost c K Kp Q) :
    ∀ (t : DTree) (listed : Array Bool) (fuel : Nat) (ℓ : List Base) (gen : Gen) (env : Env) (S : St) (a : Act) (w : World), DC ops listed → treeFits ops U t listed fuel = true → Inv c ℓ [] gen env S a w → vcTree P tt N ops U t gen env S K Kp → wpAnyC ro P ops Q (Cu U listed (Cls S ℓ)) fuel listed a w
  | .leaf ps, listed, fuel, ℓ, gen, env, S, a, w, hdc, hf, hI, h => by
    simp only [treeFits] at hf
    split at hf
    · rename_i l hl
      simp only [Bool.and_eq_true, decide_eq_true_eq] at hf
      have hle := Nat.le_of_ble_eq_true hf.2
      simp only [vcTree] at h
      have := vcPs_sound (ro := ro) (fuel := fuel - ps.length) hQf hN hT hs hnd ps listed ℓ gen env S a w hdc hl hI h (fun ℓ' gen' env' S' a' _ hI' hk' => wpAnyC_done hf.1 (fun _ => hI'.good.cls) (hQ.1 _ _ _ _ _ _ _ hI' hk') _)
      rwa [Nat.sub_add_cancel hle] at this
    · cases hf
  | .node ps cs, listed, fuel, ℓ, gen, env, S, a, w, hdc, hf, hI, h => by
    simp only [treeFits] at hf
    split at hf
    · rename_i l hl
      simp only [Bool.and_eq_true, decide_eq_true_eq] at hf
      obtain ⟨⟨hready, hle, hne⟩, hcs⟩ := hf
      have hle := Nat.le_of_ble_eq_true hle
      simp only [vcTree] at h
      obtain ⟨k, hk⟩ : ∃ k, fuel - ps.length = k + 1 := ⟨fuel - ps.length - 1, by omega⟩
      have := vcPs_sound (ro := ro) (fuel := k + 1) hQf hN hT hs hnd ps listed ℓ gen env S a w hdc hl hI h (fun ℓ' gen' env' S' a' hdcl hI' hk' => by
        refine ⟨fun _ => hI'.good.cls, fun hr => ?_, fun i hi => ?_⟩
        · rw [hready] at hr
          cases cs with
          | nil => simp at hne
          | cons x r => simp at hr
        · have hir := hi
          rw [hready] at hi
          obtain ⟨p, hp, rfl⟩ := List.mem_map.1 hi
          have hone := vcTrees_all hk' p hp
          have hfit : treeFits ops U p.2 (l.setIfInBounds p.1 true) k = true := by
            rw [hk, Nat.add_sub_cancel] at hcs
            exact treesFit_mem hcs p hp
          exact vcTrees_any hQf hN hT hs hnd hQ cs p hp l k ℓ' gen' env' S' a' w hdcl hir hfit hI' hone)
      have e : k + 1 + ps.length = fuel := by omega
      rwa [e] at this
    · cases hf
theorem vcTrees_any {Q : Exit → Act → World → Prop} (hQf : NoFrame Q) {N : Nat} (hN : c.N = N) (hT : TTOK P tt) (hs : Region.noSelect ops = true) (hnd : noDefers ops = true) {U : List Nat} {K : Env → St → Prop} {Kp : SV → St → Prop} (hQ : OpsPost c K Kp Q) :
    ∀ (cs : List (Nat × DTree)) (p : Nat × DTree), p ∈ cs → ∀ (l : Array Bool) (k : Nat) (ℓ : List Base) (gen : Gen) (env : Env) (S : St) (a : Act) (w : World), DC ops l → p.1 ∈ Region.ready .any ops l → treeFits ops U p.2 (l.setIfInBounds p.1 true) k = true → Inv c ℓ [] gen env S a w → vcOne P tt N ops U p.1 p.2 gen env S K Kp →
      wpOpIn (fen ro) 0 P ops Q p.1 (wpAnyC ro P ops Q (Cu U l (Cls S ℓ)) k (l.setIfInBounds p.1 true)) a w
  | [], p, hp, _, _, _, _, _, _, _, _, _, _, _, _, _ => by simp at hp
  | (e, t) :: r, p, hp, l, k, ℓ, gen, env, S, a, w, hdc, hrd, hfit, hI, hone => by
    by_cases heq : p = (e, t)
    · subst heq
      unfold vcOne at hone
      split at hone
      · exact hone.elim
      · rename_i o ho
        have ho' : ops[e]? = some o := by rw [nth_eq] at ho; simpa using ho
        have run : ∀ al : Atoms, Holds a al → Region.wanted o (yielded ops a.tmps) = true → vcRun P tt [] (getter gen env al) o S (fun s S' => keepsIf U e S S' (putK N o.dst s [] gen env (fun env' => vcTree P tt N ops U t gen env' S' K Kp))) Kp → wpOpIn (fen ro) 0 P ops Q e (wpAnyC ro P ops Q (Cu U l (Cls S ℓ)) k (l.setIfInBounds e true)) a w := by
          intro al hal hw hone
          unfold wpOpIn
          simp only [ho', hw, if_true]
          refine (vcRun_sound (al := al) hT hI hal ?_ ?_ hone)
          · intro r' ℓ' S' w' hst hwf hkp
            unfold keepsIf at hkp
            have hdc' := hdc.step hrd
            have hsub : ∀ u, l.getD u false = true → (l.setIfInBounds e true).getD u false = true := fun u hu => getD_set_true hu
            split at hkp
            · rename_i hmem
              obtain ⟨env', hk2, hI2⟩ := putK_sound hN (hI.step hst) hwf hkp
              refine wpAnyC.mono (l.setIfInBounds e true) (cu_weaken hsub (fun hno => ?_)) (fun _ h => h) (vcTree_any hQf hN hT hs hnd hQ t _ k ℓ' gen env' S' _ w' hdc' hfit hI2 hk2)
              -- the operation is one of U that was not listed: nothing is claimed any more
              exfalso
              have h1 := (mem_ready.1 hrd).1
              have hlt : e < l.size := by
                rcases Nat.lt_or_ge e l.size with h' | h'
                · exact h'
                · simp [Array.getElem?_eq_none h'] at h1
              have h2 : l.getD e false = false := by simp [hlt] at h1 ⊢; exact h1
              have := hno e (memN_iff.1 hmem) h2
              simp [hlt] at this
            · obtain ⟨hkept, hput⟩ := hkp
              obtain ⟨env', hk2, hI2⟩ := putK_sound hN (hI.step hst) hwf hput
              exact wpAnyC.mono (l.setIfInBounds e true) (cu_weaken hsub (fun _ w1 h1 => Cls.mono hI.good hst.pre hkept w1 h1)) (fun _ h => h) (vcTree_any hQf hN hT hs hnd hQ t _ k ℓ' gen env' S' _ w' hdc' hfit hI2 hk2)
          · intro v ℓ' S' w' hst hwf hk2
            exact hQ.2 _ _ _ _ _ (hI.step hst).noEnv hwf hk2
        unfold vcEv at hone
        split at hone
        · rename_i hg
          exact run [] (by simp [Holds]) (by simp [Region.wanted, hg]) hone
        · rename_i j want hg
          split at hone
          · exact hone.elim
          · rename_i g hgs
            have hy := yielded_eq (a := a) hgs
            have hwant : Region.wanted o (yielded ops a.tmps) = (yielded ops a.tmps j == some want) := by simp [Region.wanted, hg]
            split at hone
            · rename_i b hb
              have hgb : a.tmps.getD g undef = .bool b := (hI.env _ _ hb).2
              rw [hgb] at hy
              simp only at hy
              by_cases hbw : b = want
              · refine run [(g, want)] ?_ (by rw [hwant, hy, hbw]; simp) (hone.t hbw)
                intro p hp
                simp only [List.mem_singleton] at hp
                subst hp
                rw [hgb, hbw]
              · have hw : Region.wanted o (yielded ops a.tmps) = false := by
                  rw [hwant, hy]; simpa using hbw
                have hskip := hone.f (by cases b <;> cases want <;> simp_all)
                unfold wpOpIn
                simp only [ho', hw, Bool.false_eq_true, if_false]
                obtain ⟨env', hk2, hI2⟩ := putK_sound hN hI (s := undefS) rfl hskip
                have hsub : ∀ u, l.getD u false = true → (l.setIfInBounds e true).getD u false = true := fun u hu => getD_set_true hu
                exact ⟨fun _ _ => trivial, wpAnyC.mono (l.setIfInBounds e true) (cu_weaken hsub (fun _ w1 h1 => h1)) (fun _ h => h) (vcTree_any hQf hN hT hs hnd hQ t _ k ℓ gen env' S _ w (hdc.step hrd) hfit hI2 hk2)⟩
            · exact hone.elim
    · exact vcTrees_any hQf hN hT hs hnd hQ r p (by rcases List.mem_cons.1 hp with h1 | h1; exact (heq h1).elim; exact h1) l k ℓ gen env S a w hdc hrd hfit hI hone
 end

theorem noFrame_QK (K : X → Env → St → Prop) : NoFrame (QK c K) := by
  rintro ch a w d v ⟨ℓ, S, v', hI, hv, rfl, hk⟩
  refine ⟨ℓ, S, v', ⟨by rw [← put_size a d v]; exact hI.size, by rw [← put_defers a d v]; exact hI.defers, fun t s h => by simp [find] at h, fun t s tags h => by simp [gfind] at h, by simp [Holds], by rw [← Ja_put (c := c) a d v]; exact hI.good, hI.fresh0, hI.pre, hI.ext, hI.fresh⟩, hv, rfl, hk⟩

/-- The draws of a function, each with the orders that its tree names. -/
def DrawsOK (dt : Draws) : Code → Bool
  | .region id ops draw => match draw with
    | false => true
    | true => match dt id with
      | some t => treeOK ops t
      | none => true
  | .seq a b => DrawsOK dt a && DrawsOK dt b
  | .cond _ a b => DrawsOK dt a && DrawsOK dt b
  | .block _ a => DrawsOK dt a
  | .loop a => DrawsOK dt a
  | .scope a => DrawsOK dt a
  | .rangeFunc _ _ a b => DrawsOK dt a && DrawsOK dt b
  | _ => true

theorem Inv.drew (hI : Inv c ℓ [] [] env S a w) : Inv c ℓ [] [] env S a { w with drawn := w.drawn + 1 } := by
  have hst : Stepped (c.Ja a) ℓ S w ℓ S { w with drawn := w.drawn + 1 } := by
    refine ⟨List.prefix_refl _, ⟨rfl, rfl, Nat.le_refl _, fun _ _ _ => rfl⟩, ?_, fun b hb => .inl hb⟩
    have h := hI.good
    refine ⟨h.len, h.nodup, h.lt, h.memJ, h.wf, ?_, ?_, ?_⟩
    · intro i b k hi hk
      exact (h.own i b k hi hk).keep (wf_of_mem h.wf hk) (fun _ _ => rfl) (fun _ _ hj => hj) (fun _ => rfl)
    · intro ac hac; exact (h.accs ac hac).keep (fun x _ hj => ⟨hj, rfl⟩) (fun _ _ _ => rfl)
    · intro p hp; exact Rep.map (w := w) (w' := { w with drawn := w.drawn + 1 }) (fun x _ hj => ⟨hj, rfl⟩) (h.reps p hp)
  exact hI.step hst

theorem draw_sound (hm : P.follows .mixedOrders = true) {N : Nat} (hN : c.N = N) (hT : TTOK P tt) {id : Nat} {t : DTree × List Nat} (hok : treeOK ops t = true) {K : Env → St → Prop} {Kp : SV → St → Prop} {Q : Exit → Act → World → Prop} (hQf : NoFrame Q) (hQ : OpsPost c K Kp Q)
    (hI : Inv c ℓ [] [] env S a w) (h : vcTree P tt N ops t.2 t.1 [] env S K Kp) : (Code.region id ops true).wpIn (fen ro) 0 P Q a w := by
  simp only [treeOK, Bool.and_eq_true] at hok
  refine wpIn_region_any hm (wpAny_of_C (vcTree_any hQf hN hT hok.1.1 hok.1.2 hQ t.1 _ _ ℓ [] env S a _ ?_ hok.2 hI.drew h))
  intro p q hq
  simp only [Array.getD_eq_getD_getElem?, Array.getElem?_replicate] at hq
  split at hq <;> simp at hq

end
end Go.Tr
