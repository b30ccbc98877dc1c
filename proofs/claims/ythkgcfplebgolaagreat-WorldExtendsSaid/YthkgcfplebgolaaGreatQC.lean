/- Merged texts: FwK FwL. Conditions stand in each rule. -/
import Derived.Test.YthkgcfplebgolaaGreatQB
set_option linter.unusedSimpArgs false
set_option linter.unusedVariables false

namespace Go.Tr
section
open Go
section
variable {P : Program} {ops : Array Oper} {Q : Exit → Act → World → Prop}
theorem qpg (ops : Array Oper) : (Region.before ops).size = ops.size ∧ ∀ j, j < ops.size → ∃ o, ops[j]? = some o ∧ ∀ p, ((Region.before ops).getD j 0).testBit p = true → ∃ e ∈ o.after, Region.binds .any e = true ∧ (p = e.on ∨ ((Region.before ops).getD e.on 0).testBit p = true) := by
 have key : (Region.before ops).size = ops.size ∧ ∀ j, j < ops.size → ∃ o, ops[j]? = some o ∧ ∀ p, ((Region.before ops).getD j 0).testBit p = true → ∃ e ∈ o.after, Region.binds .any e = true ∧ (p = e.on ∨ (((Region.before ops).getD e.on 0).testBit p = true ∧ e.on < j)) := by
  unfold Region.before
  refine Array.foldl_induction (motive := fun i (acc : Array Nat) => acc.size = i ∧ ∀ j, j < i → ∃ o, ops[j]? = some o ∧ ∀ p, (acc.getD j 0).testBit p = true → ∃ e ∈ o.after, Region.binds .any e = true ∧ (p = e.on ∨ ((acc.getD e.on 0).testBit p = true ∧ e.on < j))) ⟨rfl, fun j hj => by omega⟩ ?_
  intro i acc ⟨hsz, hacc⟩
  have hfold : ∀ (l : List Edge) (s0 : Nat) (p : Nat), (l.foldl (fun s e => if Region.binds .any e then s ||| 2 ^ e.on ||| acc.getD e.on 0 else s) s0).testBit p = true → s0.testBit p = true ∨ ∃ e ∈ l, Region.binds .any e = true ∧ (p = e.on ∨ (acc.getD e.on 0).testBit p = true) := by
   intro l
   induction l with
   | nil => intro s0 p h; exact .inl h
   | cons e l ih =>
    intro s0 p h
    simp only [List.foldl_cons] at h
    rcases ih _ p h with h1 | ⟨e', h1, h2, h3⟩
    ·split at h1
     ·rename_i hb
      rw [Nat.testBit_or, Nat.testBit_or, Nat.testBit_two_pow] at h1
      simp only [Bool.or_eq_true, decide_eq_true_eq] at h1
      rcases h1 with (h1 | h1) | h1
      ·exact .inl h1
      ·exact .inr ⟨e, by simp, hb, .inl h1.symm⟩
      ·exact .inr ⟨e, by simp, hb, .inr h1⟩
     ·exact .inl h1
    ·exact .inr ⟨e', by simp [h1], h2, h3⟩
  refine ⟨by simp [hsz], fun j hj => ?_⟩
  have hget : ∀ q, q < i.val → (acc.push (ops[i].after.foldl (fun s e => if Region.binds .any e then s ||| 2 ^ e.on ||| acc.getD e.on 0 else s) 0)).getD q 0 = acc.getD q 0 := by
   intro q hq
   simp only [Array.getD_eq_getD_getElem?, Array.getElem?_push]
   rw [if_neg (by omega)]
  by_cases hji : j = i.val
  ·subst hji
   refine ⟨ops[i], by simp, fun p hp => ?_⟩
   have e1 : (acc.push (ops[i].after.foldl (fun s e => if Region.binds .any e then s ||| 2 ^ e.on ||| acc.getD e.on 0 else s) 0)).getD i.val 0 = ops[i].after.foldl (fun s e => if Region.binds .any e then s ||| 2 ^ e.on ||| acc.getD e.on 0 else s) 0 := by
    simp only [Array.getD_eq_getD_getElem?, Array.getElem?_push]
    rw [if_pos (by omega)]; rfl
   rw [e1] at hp
   rw [← Array.foldl_toList] at hp
   rcases hfold _ _ _ hp with h1 | ⟨e, h1, h2, h3⟩
   ·simp at h1
   ·refine ⟨e, by simpa using h1, h2, ?_⟩
    rcases h3 with h3 | h3
    ·exact .inl h3
    ·have hlt : e.on < i.val := by
      rcases Nat.lt_or_ge e.on i.val with h4 | h4
      ·exact h4
      ·rw [Array.getD_eq_getD_getElem?, Array.getElem?_eq_none (by omega)] at h3; simp at h3
     exact .inr ⟨by rw [hget _ hlt]; exact h3, hlt⟩
  ·have hlt : j < i.val := by omega
   obtain ⟨o, ho, h⟩ := hacc j hlt
   refine ⟨o, ho, fun p hp => ?_⟩
   rw [hget j hlt] at hp
   obtain ⟨e, h1, h2, h3⟩ := h p hp
   refine ⟨e, h1, h2, ?_⟩
   rcases h3 with h3 | ⟨h3, h4⟩
   ·exact .inl h3
   ·exact .inr ⟨by rw [hget _ (by omega)]; exact h3, h4⟩
 refine ⟨key.1, fun j hj => ?_⟩
 obtain ⟨o, ho, h⟩ := key.2 j hj
 refine ⟨o, ho, fun p hp => ?_⟩
 obtain ⟨e, h1, h2, h3⟩ := h p hp
 exact ⟨e, h1, h2, h3.imp id (·.1)⟩
def anc (ops : Array Oper) (p q : Nat) : Bool := ((Region.before ops).getD q 0).testBit p
def DC (ops : Array Oper) (listed : Array Bool) : Prop := ∀ p q, listed.getD q false = true → anc ops p q = true → listed.getD p false = true
theorem DC.ready {listed : Array Bool} (h : DC ops listed) {j p : Nat} (hj : j ∈ Region.ready .any ops listed) (ha : anc ops p j = true) : listed.getD p false = true := by
 obtain ⟨_, o, ho, hall⟩ := mem_ready.1 hj
 have hlt : j < ops.size := (Array.getElem?_eq_some_iff.1 ho).1
 obtain ⟨o', ho', hb⟩ := (qpg ops).2 j hlt
 rw [ho] at ho'
 cases ho'
 obtain ⟨e, h1, h2, h3⟩ := hb p ha
 have hl := hall e h1 h2
 rcases h3 with h3 | h3
 ·rw [h3]; exact hl
 ·exact h p e.on hl h3
theorem DC.step {listed : Array Bool} (h : DC ops listed) {j : Nat} (hj : j ∈ Region.ready .any ops listed) : DC ops (listed.setIfInBounds j true) := by
 intro p q hq ha
 by_cases hqj : q = j
 ·subst hqj
  exact getD_set_true (h.ready hj ha)
 ·rw [getD_set_ne false (Ne.symm hqj)] at hq
  exact getD_set_true (h p q hq ha)
def wpAnyC (ro : Option Nat) (P : Program) (ops : Array Oper) (Q : Exit → Act → World → Prop) (C : Array Bool → World → Prop) : Nat → Array Bool → Act → World → Prop
 | 0, listed, a, w => C listed w ∧ Region.ready .any ops listed = [] ∧ Q .normal a w
 | fuel + 1, listed, a, w => C listed w ∧ (Region.ready .any ops listed = [] → Q .normal a w) ∧
  ∀ i ∈ Region.ready .any ops listed, wpOpIn (fen ro) 0 P ops Q i (wpAnyC ro P ops Q C fuel (listed.setIfInBounds i true)) a w
variable {ro : Option Nat}
theorem wpAnyC.cls {C : Array Bool → World → Prop} : ∀ {fuel : Nat} {listed : Array Bool} {a : Act} {w : World}, wpAnyC ro P ops Q C fuel listed a w → C listed w
 | 0, _, _, _, h => h.1
 | _ + 1, _, _, _, h => h.1
theorem wpAnyC.mono {C C' : Array Bool → World → Prop} (l0 : Array Bool) (hC : ∀ l w, (∀ p, l0.getD p false = true → l.getD p false = true) → C l w → C' l w) : ∀ {fuel : Nat} {listed : Array Bool} {a : Act} {w : World}, (∀ p, l0.getD p false = true → listed.getD p false = true) → wpAnyC ro P ops Q C fuel listed a w → wpAnyC ro P ops Q C' fuel listed a w
 | 0, _, _, _, hl, h => ⟨hC _ _ hl h.1, h.2⟩
 | _ + 1, _, _, _, hl, h => ⟨hC _ _ hl h.1, h.2.1, fun i hi => wpOpIn_mono (fun _ _ => wpAnyC.mono l0 hC (fun p hp => getD_set_true (hl p hp))) (h.2.2 i hi)⟩
theorem qlo {C : Array Bool → World → Prop} : ∀ {fuel : Nat} {listed : Array Bool} {a : Act} {w : World}, wpAnyC ro P ops Q C fuel listed a w → wpAnyIn (fen ro) 0 P .any ops Q fuel listed a w
 | 0, _, _, _, h => h.2
 | _ + 1, _, _, _, h => ⟨h.2.1, fun i hi => wpOpIn_mono (fun _ _ => qlo) (h.2.2 i hi)⟩
def Cu (U : List Nat) (L : Array Bool) (Y : World → Prop) (listed : Array Bool) (w : World) : Prop := (∀ u ∈ U, L.getD u false = false → listed.getD u false = false) → Y w
structure YieldsC (P : Program) (ops : Array Oper) (C : World → Prop) (o : Oper) (v : Value) (a : Act) : Prop where
 yes : Region.wanted o (yielded ops a.tmps) = true → ∀ w, C w → (execOp a.eval o).run P w = .ok (.value v) w
 no : Region.wanted o (yielded ops a.tmps) = false → v = undef
theorem YieldsC.yields {C : World → Prop} {o : Oper} {v : Value} {a : Act} (hw : Region.wanted o (yielded ops a.tmps) = true) (h : ∀ w, C w → (execOp a.eval o).run P w = .ok (.value v) w) : YieldsC P ops C o v a :=
 ⟨fun _ => h, fun hn => by rw [hw] at hn; cases hn⟩
theorem YieldsC.idle {C : World → Prop} {o : Oper} {a : Act} (hw : Region.wanted o (yielded ops a.tmps) = false) : YieldsC P ops C o undef a :=
 ⟨fun hn => (by rw [hw] at hn; cases hn), fun _ => rfl⟩
def noDefers (ops : Array Oper) : Bool := ops.toList.all fun o => match o.op with
 | .defer _ => false
 | _ => true
theorem qec (h : noDefers ops = true) {i : Nat} {o : Oper} (hi : ops[i]? = some o) : ∀ c, o.op ≠ .defer c := by
 intro c hc
 simp only [noDefers, List.all_eq_true] at h
 have := h o (by simpa using Array.mem_of_getElem? hi)
 rw [hc] at this
 cases this
theorem YieldsC.takes {C : World → Prop} {i : Nat} {o : Oper} {v : Value} {a : Act} {K : Act → World → Prop} {w : World} (hy : YieldsC P ops C o v a) (hi : ops[i]? = some o) (hnd : ∀ c, o.op ≠ .defer c) (hw : C w) (h : K (a.put o.dst v) w) : wpOpIn (fen ro) 0 P ops Q i K a w := by
 unfold wpOpIn
 rw [hi]
 show if _ then _ else _
 split
 ·rename_i hwant
  refine up_wp hnd ?_
  unfold upOp
  rw [hy.yes hwant w hw]
  exact h
 ·rename_i hwant
  have e := hy.no (by simpa using hwant)
  subst e
  exact ⟨fun _ _ => trivial, h⟩
theorem upon_later {oi oj : Oper} {v : Value} {a : Act} {Y : Act → Prop} {K : Act → World → Prop} (hY : ∀ ds u, Y ({ a with defers := ds }.put oj.dst u)) (hd : ∀ ds u, ({ a with defers := ds }.put oi.dst v).put oj.dst u = ({ a with defers := ds }.put oj.dst u).put oi.dst v)
  (hQ : ∀ c a w, Q (.panic c) (a.put oi.dst v) w → Q (.panic c) a w) : ∀ r : Result Next, oj.uponIn (fen ro) 0 P (a.put oi.dst v) K Q r → oj.uponIn (fen ro) 0 P a (fun a' w' => Y a' ∧ K (a'.put oi.dst v) w') Q r := by
 have back : ∀ u w', K ((a.put oi.dst v).put oj.dst u) w' → Y (a.put oj.dst u) ∧ K ((a.put oj.dst u).put oi.dst v) w' := fun u w' h => ⟨hY a.defers u, by rw [← hd a.defers u]; exact h⟩
 have ends : ∀ (e : Ending) (w' : World), (match e with
   | .returned u => K ((a.put oi.dst v).put oj.dst u) w'
   | .panicked chain => Q (.panic chain) (a.put oi.dst v) w'
   | .outgrown => LetsOut Q) → (match e with
   | .returned u => Y (a.put oj.dst u) ∧ K ((a.put oj.dst u).put oi.dst v) w'
   | .panicked chain => Q (.panic chain) a w'
   | .outgrown => LetsOut Q) := by
  intro e w' h
  cases e with
  | returned u => exact back u w' h
  | panicked ch => exact hQ _ _ _ h
  | outgrown => exact h
 intro r h
 cases r with
 | halt x w' =>
  cases x with
  | panic u => exact hQ _ _ _ h
  | _ => exact h
 | ok nx w' =>
  cases nx with
  | value u => exact back u w' h
  | skip => exact back undef w' h
  | defer d =>
   refine ⟨hY _ _, ?_⟩
   rw [← hd, ← Act.put_defers]
   exact h
  | enter f ag => exact ⟨h.1, CallsIn.mono h.2 (fun e w'' he => by have := ends e w'' (by cases e <;> exact he); cases e <;> exact this)⟩
  | round l f tmps assign body => exact ⟨h.1, RoundIn.mono h.2 (fun e w'' he => by have := ends e w'' (by cases e <;> exact he); cases e <;> exact this)⟩
  | row s ag => exact ⟨h.1, RowsIn.mono h.2 (fun u w'' he => back u w'' he)⟩
  | _ => exact h
theorem wpOp_swap {C : World → Prop} {j : Nat} {oi oj : Oper} {v : Value} (hj : ops[j]? = some oj) (hap : oi.apart ops oj = true)
  (hsi : ∀ cs b, oi.op ≠ .select cs b) (hsj : ∀ cs b, oj.op ≠ .select cs b) (hndj : ∀ c, oj.op ≠ .defer c)
  (hQ : ∀ c a w, Q (.panic c) (a.put oi.dst v) w → Q (.panic c) a w) {K : Act → World → Prop} {a : Act} {w : World}
  (hy : YieldsC P ops C oi v a) (h : wpOpIn (fen ro) 0 P ops Q j K (a.put oi.dst v) w) :
  wpOpIn (fen ro) 0 P ops Q j (fun a' w' => YieldsC P ops C oi v a' ∧ K (a'.put oi.dst v) w') a w := by
 obtain ⟨h1, h2, h3⟩ := Oper.apart_spec hap
 have hY : ∀ ds u, YieldsC P ops C oi v ({ a with defers := ds }.put oj.dst u) := by
  intro ds u
  have hwe := wanted_put oi { a with defers := ds } oj.dst u h3
  refine ⟨fun hw w hc => ?_, fun hw => hy.no (by rw [← hw]; exact hwe.symm)⟩
  rw [execOp_put oi hsi { a with defers := ds } oj.dst u h3]
  exact hy.yes (by rw [← hw]; exact hwe.symm) w hc
 have hd : ∀ ds u, ({ a with defers := ds }.put oi.dst v).put oj.dst u = ({ a with defers := ds }.put oj.dst u).put oi.dst v := fun ds u => Act.put_comm _ v u h2
 unfold wpOpIn at h ⊢
 rw [hj] at h ⊢
 have hwe := wanted_put oj a oi.dst v h1
 simp only [hwe] at h
 show if _ then _ else _
 split
 ·rename_i hw
  rw [if_pos hw] at h
  refine up_wp hndj ?_
  have h' := h.2
  rw [Oper.semAt_eq _ _ _ hndj, execOp_put oj hsj a oi.dst v h1] at h'
  exact upon_later hY hd hQ _ h'
 ·rename_i hw
  rw [if_neg hw] at h
  exact ⟨fun _ _ => trivial, hY a.defers _, by rw [← hd a.defers]; exact h.2⟩
def freeOp (o : Oper) : Bool := match o.op with
 | .move _ => true
 | .assign _ => true
 | .pick _ _ _ => true
 | .extract _ _ => true
 | _ => false
def memFree (ops : Array Oper) (p : Nat) : Bool := match nth ops.toList p with
 | some o => freeOp o
 | none => false
theorem freeOp_all {ρ : Operand → Value} {o : Oper} {v : Value} {w : World} (hf : freeOp o = true) (h : (execOp ρ o).run P w = .ok (.value v) w) (w1 : World) : (execOp ρ o).run P w1 = .ok (.value v) w1 := by
 unfold freeOp at hf
 unfold execOp at h ⊢
 split at hf
 ·rename_i e
  simp only [e, Sem.run_pure, Result.ok.injEq, Next.value.injEq, and_true] at h ⊢
  exact h
 ·rename_i e
  simp only [e, Sem.run_pure, Result.ok.injEq, Next.value.injEq, and_true] at h ⊢
  exact h
 ·rename_i e
  simp only [e] at h ⊢
  generalize ρ _ = b at h ⊢
  cases b <;> simp_all [asBool, Sem.run_bind, Sem.run_pure, Result.andThen_ok]
 ·rename_i e
  simp only [e] at h ⊢
  generalize ρ _ = b at h ⊢
  unfold Instr.extract at h ⊢
  cases b with
  | tuple vs =>
   simp only at h ⊢
   split at h
   ·simpa [Sem.run_bind, Sem.run_pure, Result.andThen_ok] using h
   ·simp [Sem.run_bind, stuck] at h
  | _ => simp [Sem.run_bind, stuck] at h
 ·cases hf
theorem qjh {U : List Nat} {L : Array Bool} {Y Z : World → Prop} {i : Nat} {oi : Oper} {v : Value} (hi : ops[i]? = some oi)
  (hs : Region.noSelect ops = true) (hnd : noDefers ops = true) (hiU : i ∉ U) (hanc : ((∀ u ∈ U, L.getD u false = false → anc ops i u = true) ∧ ∀ w, Y w → Z w) ∨ ∀ w, Z w) (hQ : ∀ c a w, Q (.panic c) (a.put oi.dst v) w → Q (.panic c) a w) :
  ∀ (fuel : Nat) (listed : Array Bool) (a : Act) (w : World), DC ops listed → Region.free .any ops listed i = true → (Region.ready .any ops listed).contains i = true → YieldsC P ops Z oi v a →
   wpAnyC ro P ops Q (Cu U L Y) fuel (listed.setIfInBounds i true) (a.put oi.dst v) w → wpAnyC ro P ops Q (Cu U L Y) (fuel + 1) listed a w := by
 have hsel := Region.noSelect_spec hs
 -- U's part of what is listed is the same with i and without
 have same : ∀ (listed : Array Bool), (∀ u ∈ U, L.getD u false = false → listed.getD u false = false) → ∀ u ∈ U, L.getD u false = false → (listed.setIfInBounds i true).getD u false = false := by
  intro listed h u hu hl
  rw [getD_set_ne false (fun e => hiU (by rw [e]; exact hu))]
  exact h u hu hl
 have notlisted : ∀ {listed : Array Bool} {k : Nat}, k ∈ Region.ready .any ops listed → listed.getD k false = false := by
  intro listed k hk
  have h0 := (mem_ready.1 hk).1
  rcases Nat.lt_or_ge k listed.size with h | h
  ·simpa [h] using h0
  ·simp [Array.getElem?_eq_none h]
 -- where i waits, none of U has been carried out: they come behind it
 have calm : ∀ {listed : Array Bool} {w : World}, DC ops listed → i ∈ Region.ready .any ops listed → Cu U L Y (listed.setIfInBounds i true) w → Z w := by
  intro listed w hdc hr h
  rcases hanc with ⟨hanc, hYZ⟩ | hZ
  rotate_left
  ·exact hZ w
  refine hYZ w (h (same listed fun u hu hl => ?_))
  cases hlu : listed.getD u false with
  | false => rfl
  | true =>
   have h1 := hdc i u hlu (hanc u hu hl)
   rw [notlisted hr] at h1
   cases h1
 -- with what has to be apart from i in place of 'free'
 have main : ∀ (fuel : Nat) (listed : Array Bool) (a : Act) (w : World), DC ops listed →
   (∀ j oj, ops[j]? = some oj → j ≠ i → listed.getD j true = false → (∀ e ∈ oj.after, Region.binds .any e = true → e.on ≠ i) → oi.apart ops oj = true) → i ∈ Region.ready .any ops listed → YieldsC P ops Z oi v a →
   wpAnyC ro P ops Q (Cu U L Y) fuel (listed.setIfInBounds i true) (a.put oi.dst v) w → wpAnyC ro P ops Q (Cu U L Y) (fuel + 1) listed a w := by
  intro fuel
  induction fuel with
  | zero =>
   intro listed a w hdc _ hr hy H
   refine ⟨fun hu => H.1 (same listed hu), fun he => (List.not_mem_nil (he ▸ hr)).elim, fun j hj => ?_⟩
   rcases Decidable.em (j = i) with e | e
   ·subst e; exact hy.takes hi (qec hnd hi) (calm hdc hr H.1) H
   ·have hm := ready_mono hj e
    rw [H.2.1] at hm
    exact (List.not_mem_nil hm).elim
  | succ fuel ih =>
   intro listed a w hdc hap hr hy H
   refine ⟨fun hu => H.1 (same listed hu), fun he => (List.not_mem_nil (he ▸ hr)).elim, fun j hj => ?_⟩
   rcases Decidable.em (j = i) with e | e
   ·subst e; exact hy.takes hi (qec hnd hi) (calm hdc hr H.1) H
   ·obtain ⟨hjun, oj, hoj, hall⟩ := mem_ready.1 hj
    have hnoti : ∀ e' ∈ oj.after, Region.binds .any e' = true → e'.on ≠ i := by
     intro e' he' hb hei
     have h1 := hall e' he' hb
     rw [hei, notlisted hr] at h1
     cases h1
    have hsw := wpOp_swap hoj (hap j oj hoj e hjun hnoti) (fun cs b => hsel i oi cs b hi) (fun cs b => hsel j oj cs b hoj) (qec hnd hoj) hQ hy (H.2.2 j (ready_mono hj e))
    refine wpOpIn_mono (fun a' w' h3 => ih (listed.setIfInBounds j true) a' w' (hdc.step hj) ?_ (ready_mono hr (Ne.symm e)) h3.1 ?_) hsw
    ·intro k ok hk hki hun hno
     refine hap k ok hk hki ?_ hno
     rcases Decidable.em (j = k) with e2 | e2
     ·subst e2; exact hjun
     ·rwa [getD_set_ne true e2] at hun
    ·rw [Array.setIfInBounds_comm _ _ e]
     exact h3.2
 intro fuel listed a w hdc hf hr hy H
 exact main fuel listed a w hdc (Region.free_spec hi hf) (by simpa using hr) hy H
def psOK (ops : Array Oper) (U : List Nat) : List Nat → Array Bool → Option (Array Bool)
 | [], listed => some listed
 | p :: ps, listed => if (Region.free .any ops listed p && (Region.ready .any ops listed).contains p) && (!memN p U && (U.all (fun u => listed.getD u false || anc ops p u) || memFree ops p)) then psOK ops U ps (listed.setIfInBounds p true) else none
mutual
def treeFits (ops : Array Oper) (U : List Nat) : DTree → Array Bool → Nat → Bool
 | .leaf ps, listed, fuel => match psOK ops U ps listed with
  | some l => decide (Region.ready .any ops l = []) && Nat.ble ps.length fuel
  | none => false
 | .node ps cs, listed, fuel => match psOK ops U ps listed with
  | some l => (decide (Region.ready .any ops l = cs.map (·.1)) && (Nat.ble (ps.length + 1) fuel && !cs.isEmpty)) && treesFit ops U cs l (fuel - ps.length - 1)
  | none => false
def treesFit (ops : Array Oper) (U : List Nat) : List (Nat × DTree) → Array Bool → Nat → Bool
 | [], _, _ => true
 | (e, t) :: r, l, fuel => treeFits ops U t (l.setIfInBounds e true) fuel && treesFit ops U r l fuel
 end
theorem qh3 {U : List Nat} {l : Array Bool} {fuel : Nat} : ∀ {cs : List (Nat × DTree)}, treesFit ops U cs l fuel = true → ∀ p ∈ cs, treeFits ops U p.2 (l.setIfInBounds p.1 true) fuel = true
 | [], _, p, hp => by simp at hp
 | (e, t) :: r, h, p, hp => by
  simp only [treesFit, Bool.and_eq_true] at h
  rcases List.mem_cons.1 hp with h1 | h1
  ·subst h1; exact h.1
  ·exact qh3 h.2 p h1
theorem memN_iff {n : Nat} : ∀ {l : List Nat}, memN n l = true ↔ n ∈ l
 | [] => by simp [memN]
 | m :: r => by
  simp only [memN, List.mem_cons]
  split
  ·rename_i h; have := Nat.eq_of_beq_eq_true h; simp [this]
  ·rename_i h
   rw [memN_iff (l := r)]
   constructor
   ·exact .inr
   ·rintro (e | e)
    ·subst e; simp at h
    ·exact e
def treeOK (ops : Array Oper) (t : DTree × List Nat × List Nat) : Bool := (Region.noSelect ops && noDefers ops) && treeFits ops t.2.1 t.1 (Array.replicate ops.size false) ops.size
end
section
variable {ro : Option Nat} {P : Program} {tt : Tab} {c : Cx} {ℓ : List Base} {gen : Gen} {env : Env} {S : St} {a : Act} {w : World} {ops : Array Oper}
def Cls (W : List Nat) (S : St) (ℓ : List Base) (w : World) : Prop := ∀ i cs, cellsIn (nth (mask W S.own) i) = some cs → qr S.own.length cs = true ∧ ∃ b, ℓ[i]? = some b ∧ ∀ j v, (qd ℓ cs)[j]? = some v → w.cell? ⟨b.block, b.off + j, none⟩ = some v
theorem qhr : ∀ (W : List Nat) (own : List Blk) (i : Nat), cellsIn (nth (mask W own) i) = if i ∈ W then none else cellsIn (nth own i)
 | [], own, i => by simp [mask]
 | k :: W, own, i => by
  simp only [mask, qhr W, List.mem_cons]
  by_cases h : i ∈ W
  ·simp [h]
  ·simp only [h, if_false, or_false]
   by_cases hk : i = k
   ·subst hk
    rw [if_pos rfl, qab, List.getElem?_set]
    by_cases hl : i < own.length
    ·simp [hl, cellsIn]
    ·simp [hl, cellsIn]
   ·rw [if_neg hk, qab, qab, List.getElem?_set, if_neg (fun e => hk e.symm)]
theorem qm9 {W : List Nat} {own : List Blk} {i : Nat} {cs : List SV} (h : cellsIn (nth (mask W own) i) = some cs) : cellsIn (nth own i) = some cs := by
 rw [qhr] at h
 split at h
 ·cases h
 ·exact h
theorem OwnKept.but {S S' : St} (W : List Nat) (h : OwnKept S S') : OwnKeptBut W S S' := by
 intro i cs hi
 rw [qhr] at hi ⊢
 split at hi
 ·cases hi
 ·rename_i hn
  rw [if_neg hn]
  exact h i cs hi
theorem Good.cls {J : Nat → Prop} {W : List Nat} (h : Good J ℓ S w) : Cls W S ℓ w := fun _ _ hk => h.cellsAt (qm9 hk)
theorem Cls.mono {W : List Nat} {S' : St} {ℓ' : List Base} {J : Nat → Prop} (hG : Good J ℓ S w) (hpre : ℓ <+: ℓ') (hk : OwnKeptBut W S S') (w1 : World) (h : Cls W S' ℓ' w1) : Cls W S ℓ w1 := by
 intro i cs hi'
 have hi := qm9 hi'
 obtain ⟨hwf, _⟩ := hG.cellsAt hi
 obtain ⟨_, b, hb, hc⟩ := h i cs (hk i cs hi')
 have hlt : i < ℓ.length := by
  rw [hG.len]
  rcases Nat.lt_or_ge i S.own.length with h1 | h1
  ·exact h1
  ·rw [qab, List.getElem?_eq_none h1] at hi; simp [cellsIn] at hi
 refine ⟨hwf, b, ?_, ?_⟩
 ·obtain ⟨t, rfl⟩ := hpre
  rwa [List.getElem?_append_left hlt] at hb
 ·intro j v hj
  refine hc j v ?_
  rw [qx (n := S.own.length) (fun k hk' => qau hpre (by rw [hG.len]; exact hk')) cs hwf]
  exact hj
theorem OwnKept.refl (S : St) : OwnKept S S := fun _ _ h => h
theorem qm3 {W : List Nat} {kn : Atoms} (hT : TTOK P tt) (h : Inv c ℓ kn gen env S a w) {al : Atoms} (hal : Holds a al) {w1 : World} (hc : Cls W S ℓ w1) : PCtx P tt (Jx (c.Ja a) (mutS ℓ S)) ℓ (mask W S.own) S.own.length a.eval kn (getter gen env al) w1 := by
 have C := h.pctx (P := P) (tt := tt) hT hal
 exact ⟨hT, C.const, C.get0, C.get1, C.hkn, hc⟩
theorem qoh {o : Op} (hk : isPureAt o = true) (own own' : List Blk) (kn : List (Nat × Bool)) (get : Getter) : stepPure tt own kn get o = stepPure tt own' kn get o := by
 cases o with
 | call cl =>
  obtain ⟨callee, args, tys⟩ := cl
  cases callee with
  | value f => simp [isPureAt] at hk
  | invoke r m => simp [isPureAt] at hk
  | builtin b => rfl
 | _ => first | rfl | (simp [isPureAt] at hk)
theorem vcRun_pure {o : Oper} {kn : Atoms} {K Kp : SV → St → Prop} (hI : Inv c ℓ kn gen env S a w) (hT : TTOK P tt) (hp : stepPure tt S.own kn (getter gen env kn) o.op = none) (hk : isPureAt o.op = true) (h : vcRun P tt kn (getter gen env kn) o S K Kp) :
  ∃ r ℓ' S', (∀ w', (execOp a.eval o).run P w' = .ok (.value (r.den ℓ')) w') ∧ r.wf S'.own.length = true ∧ ℓ <+: ℓ' ∧ Good (c.Ja a) ℓ' S' w ∧ (∀ b ∈ mutS ℓ' S', b ∈ mutS ℓ S) ∧ OwnKept S S' ∧ K r S' := by
 have C := hI.pctx (P := P) (tt := tt) (al := kn) hT hI.kn
 have fin : ∀ m : List Base → Sem Value, execOp a.eval o = (do pure (.value (← m ℓ)) : Sem Next) → AtPure P m S K → ∃ r ℓ' S', (∀ w', (execOp a.eval o).run P w' = .ok (.value (r.den ℓ')) w') ∧ r.wf S'.own.length = true ∧ ℓ <+: ℓ' ∧ Good (c.Ja a) ℓ' S' w ∧ (∀ b ∈ mutS ℓ' S', b ∈ mutS ℓ S) ∧ OwnKept S S' ∧ K r S' := by
  intro m he hm
  obtain ⟨r, ℓ', S', hr, hwf, hpre, hg, hf, hok, hK⟩ := hm.sem (c.Ja a) ℓ w hI.good hI.freshJ
  refine ⟨r, ℓ', S', fun w' => ?_, hwf, hpre, hg, hf, hok, hK⟩
  rw [he, Sem.run_bind, hr]; rfl
 unfold vcRun at h
 rw [hp] at h
 cases ho : o.op with
 | indexAddr t x i =>
  rw [ho] at h
  simp only at h
  split at h
  ·rename_i sx sy hx hy
   refine fin _ ?_ h
   unfold execOp; rw [ho]; simp only [(C.get0 _ _ hx).2, (C.get0 _ _ hy).2]
  ·exact h.elim
 | index t x i =>
  rw [ho] at h
  simp only at h
  split at h
  ·rename_i sx sy hx hy
   refine fin _ ?_ h
   unfold execOp; rw [ho]; simp only [(C.get0 _ _ hx).2, (C.get0 _ _ hy).2]
  ·exact h.elim
 | field t x f =>
  rw [ho] at h
  simp only at h
  split at h
  ·rename_i sx hx
   refine fin _ ?_ h
   unfold execOp; rw [ho]; simp only [(C.get0 _ _ hx).2]
  ·exact h.elim
 | fieldAddr t x f =>
  rw [ho] at h
  simp only at h
  split at h
  ·rename_i sx hx
   refine fin _ ?_ h
   unfold execOp; rw [ho]; simp only [(C.get0 _ _ hx).2]
  ·exact h.elim
 | slice t x lo hi mx =>
  rw [ho] at h
  simp only at h
  split at h
  ·rename_i sx sl sh sm hx hl hh hm
   refine fin _ ?_ h
   unfold execOp; rw [ho]; simp only [(C.get0 _ _ hx).2, qa9 (C := C) hl, qa9 (C := C) hh, qa9 (C := C) hm]
  ·exact h.elim
 | binOp op t x y ty =>
  rw [ho] at h
  simp only at h
  split at h
  ·rename_i sx sy hx hy
   refine fin _ ?_ h
   unfold execOp; rw [ho]; simp only [(C.get0 _ _ hx).2, (C.get0 _ _ hy).2]
  ·exact h.elim
 | unOp op t x =>
  rw [ho] at h
  simp only at h
  split at h
  ·rename_i sx hx
   refine fin _ ?_ h
   unfold execOp; rw [ho]; simp only [(C.get0 _ _ hx).2]
  ·exact h.elim
 | makeInterface t x =>
  rw [ho] at h
  simp only at h
  split at h
  ·rename_i sx hx
   refine fin _ ?_ h
   unfold execOp; rw [ho]; simp only [(C.get0 _ _ hx).2]
  ·exact h.elim
 | typeAssert x t ag ok =>
  rw [ho] at h
  simp only at h
  split at h
  ·rename_i sx hx
   refine fin _ ?_ h
   unfold execOp; rw [ho]; simp only [(C.get0 _ _ hx).2]
  ·exact h.elim
 | build t parts =>
  rw [ho] at h
  simp only at h
  split at h
  ·rename_i l hl
   have hl' := qcj (C := C) _ _ hl
   have hp : (parts.map fun (i, x) => (i, a.eval x)) = (denParts ℓ l).toArray := by
    rw [← Array.toList_inj, Array.toList_map, hl']
   refine fin _ ?_ h
   unfold execOp; rw [ho]; simp only [hp]
  ·exact h.elim
 | call cl =>
  rw [ho] at h hk
  obtain ⟨callee, args, tys⟩ := cl
  cases callee with
  | value f => simp [isPureAt] at hk
  | invoke r m => simp [isPureAt] at hk
  | builtin b =>
   cases b <;> simp only [isPureAt, Bool.false_eq_true] at hk
   all_goals
    simp only at h
    split at h
    ·rename_i l hl
     refine fin _ ?_ h
     unfold execOp; rw [ho]
     simp only [resolve, pure_bind, invoke, builtin, qdc (qw C _ _ hl).2]
    ·exact h.elim
 | _ => rw [ho] at hk; simp [isPureAt] at hk
theorem qo7 {Q : Exit → Act → World → Prop} {C : Array Bool → World → Prop} {listed : Array Bool} (hr : Region.ready .any ops listed = []) (hC : C listed w) (h : Q .normal a w) : ∀ fuel, wpAnyC ro P ops Q C fuel listed a w
 | 0 => ⟨hC, hr, h⟩
 | _ + 1 => ⟨hC, fun _ => h, by rw [hr]; simp⟩
def NoFrame (fz : List Nat) (Q : Exit → Act → World → Prop) : Prop := ∀ ch a w d v, (∀ e, d = some e → e ∉ fz) → Q (.panic ch) (Act.put a d v) w → Q (.panic ch) a w
theorem qg4 {U : List Nat} {L L' : Array Bool} {Y Y' : World → Prop} (hL : ∀ u, L.getD u false = true → L'.getD u false = true) (h : (∀ u ∈ U, L.getD u false = false → L'.getD u false = false) → ∀ w, Y' w → Y w) (l : Array Bool) (w : World) (hl : ∀ p, L'.getD p false = true → l.getD p false = true) (hc : Cu U L' Y' l w) : Cu U L Y l w := by
 intro hu
 have hnew : ∀ u ∈ U, L.getD u false = false → L'.getD u false = false := by
  intro u hu1 hu2
  cases hlu : L'.getD u false with
  | false => rfl
  | true => have := hl u hlu; rw [hu u hu1 hu2] at this; cases this
 refine h hnew w (hc (fun u hu1 hu2 => hu u hu1 ?_))
 cases hlu : L.getD u false with
 | false => rfl
 | true => rw [hL u hlu] at hu2; cases hu2
theorem qcf {Q : Exit → Act → World → Prop} (hz : ∀ o ∈ ops.toList, ∀ d, o.dst = some d → d ∉ c.fz) (hQ : NoFrame c.fz Q) {N : Nat} (hN : c.N = N) (hT : TTOK P tt) (hs : Region.noSelect ops = true) (hnd : noDefers ops = true) {U W : List Nat} {K : Atoms → Gen → Env → St → Prop} {l : Array Bool} {fuel : Nat} :
  ∀ (ps : List Nat) (listed : Array Bool) (ℓ : List Base) (kn : Atoms) (gen : Gen) (env : Env) (S : St) (a : Act) (w : World), DC ops listed → psOK ops U ps listed = some l → Inv c ℓ kn gen env S a w → vcPs P tt N ops W ps kn gen env S K →
   (∀ ℓ' kn' gen' env' S' a', DC ops l → Inv c ℓ' kn' gen' env' S' a' w → K kn' gen' env' S' → wpAnyC ro P ops Q (Cu U l (Cls W S' ℓ')) fuel l a' w) → wpAnyC ro P ops Q (Cu U listed (Cls W S ℓ)) (fuel + ps.length) listed a w
 | [], listed, ℓ, kn, gen, env, S, a, w, hdc, hps, hI, h, hk => by
  simp only [psOK, Option.some.injEq] at hps
  subst hps
  exact hk ℓ kn gen env S a hdc hI h
 | p :: ps, listed, ℓ, kn, gen, env, S, a, w, hdc, hps, hI, h, hk => by
  simp only [psOK] at hps
  split at hps
  ·rename_i hfr
   simp only [Bool.and_eq_true, Bool.not_eq_true', List.all_eq_true, Bool.or_eq_true] at hfr
   obtain ⟨⟨hfree, hready⟩, hpU, hpanc⟩ := hfr
   have hpU' : p ∉ U := fun hm => by rw [memN_iff.2 hm] at hpU; cases hpU
   have hready' : p ∈ Region.ready .any ops listed := by simpa using hready
   have hanc : (∀ u ∈ U, listed.getD u false = false → anc ops p u = true) ∨ memFree ops p = true := hpanc.imp (fun h u hu hl => (h u hu).resolve_left (by rw [hl]; simp)) (fun h => h)
   have hdc' := hdc.step hready'
   simp only [vcPs_cons, vcPone] at h
   split at h
   ·exact h.elim
   ·rename_i o ho
    have ho' : ops[p]? = some o := by rw [qab] at ho; simpa using ho
    have hom : o ∈ ops.toList := List.mem_of_getElem? (i := p) (by simpa using ho')
    have hsub : ∀ u, listed.getD u false = true → (listed.setIfInBounds p true).getD u false = true := fun u hu => getD_set_true hu
    have take : ∀ (v : Value) (a' : Act) (S' : St) (ℓ' : List Base), a' = a.put o.dst v → YieldsC P ops (Cls W S ℓ) o v a → (∀ w1, Cls W S' ℓ' w1 → Cls W S ℓ w1) → wpAnyC ro P ops Q (Cu U (listed.setIfInBounds p true) (Cls W S' ℓ')) (fuel + ps.length) (listed.setIfInBounds p true) a' w → wpAnyC ro P ops Q (Cu U listed (Cls W S ℓ)) (fuel + (p :: ps).length) listed a w := by
     intro v a' S' ℓ' ha' hy hw hh
     subst ha'
     have hh' := wpAnyC.mono (listed.setIfInBounds p true) (qg4 (U := U) (L := listed) (Y := Cls W S ℓ) hsub (fun _ => hw)) (fun _ h => h) hh
     rcases hanc with hanc | hmf
     ·exact qjh ho' hs hnd hpU' (.inl ⟨hanc, fun _ h => h⟩) (fun ch a w => hQ ch a w _ _ (hz o hom)) _ listed a w hdc hfree hready hy hh'
     ·have hfo : freeOp o = true := by
       unfold memFree at hmf
       rw [qab] at hmf
       rw [show ops.toList[p]? = some o by simpa using ho'] at hmf
       exact hmf
      have hy2 : YieldsC P ops (fun _ => True) o v a := ⟨fun hw w1 _ => freeOp_all hfo (hy.yes hw w (hI.good.cls (W := W))) w1, hy.no⟩
      exact qjh ho' hs hnd hpU' (.inr fun _ => trivial) (fun ch a w => hQ ch a w _ _ (hz o hom)) _ listed a w hdc hfree hready hy2 hh'
    have go : ∀ kn : Atoms, Inv c ℓ kn gen env S a w → Region.wanted o (yielded ops a.tmps) = true → vcPdo P tt N W o (vcPs P tt N ops W ps) kn gen env S K → wpAnyC ro P ops Q (Cu U listed (Cls W S ℓ)) (fuel + (p :: ps).length) listed a w := by
     intro kn hI hw h
     unfold vcPdo at h
     split at h
     ·rename_i s hsp
      have hC := qm3 (P := P) (tt := tt) (al := kn) hT hI hI.kn (hI.good.cls (W := W))
      have hsound := qaq hC o hsp
      obtain ⟨env', hk2, hI2⟩ := qa6 hN (hz o hom) hI hsound.1 h
      refine take (s.den ℓ) _ S ℓ rfl (.yields hw fun w1 hc1 => ?_) (fun _ h => h) (qcf hz hQ hN hT hs hnd ps _ ℓ kn gen env' S _ w hdc' hps hI2 hk2 hk)
      exact (qaq (qm3 hT hI hI.kn hc1) o hsp).2
     ·rename_i hsp
      split at h
      ·rename_i hat
       obtain ⟨r, ℓ', S', hr, hwf, hpre, hg', hf, hkept, hk1⟩ := vcRun_pure hI hT (by rw [qoh hat S.own (mask W S.own)]; exact hsp) hat h
       have hst : Stepped (c.Ja a) ℓ S w ℓ' S' w := ⟨hpre, Ext.refl _ _, hg', fun b hb => .inl (hf b hb)⟩
       obtain ⟨env', hk2, hI2⟩ := qa6 hN (hz o hom) (hI.step hst) hwf hk1
       have hih := qcf hz hQ hN hT hs hnd ps _ ℓ' kn gen env' S' _ w hdc' hps hI2 hk2 hk
       exact take (r.den ℓ') _ S' ℓ' rfl (.yields hw fun w1 _ => hr w1) (fun w1 h1 => Cls.mono hI.good hpre (hkept.but W) w1 h1) hih
      ·exact h.elim
    have skip : ∀ kn : Atoms, Inv c ℓ kn gen env S a w → Region.wanted o (yielded ops a.tmps) = false → putK N o.dst undefS kn gen env (fun env' => vcPs P tt N ops W ps kn gen env' S K) → wpAnyC ro P ops Q (Cu U listed (Cls W S ℓ)) (fuel + (p :: ps).length) listed a w := by
     intro kn hI hw h
     obtain ⟨env', hk2, hI2⟩ := qa6 hN (hz o hom) hI (s := undefS) rfl h
     exact take undef _ S ℓ rfl (.idle hw) (fun _ h => h) (qcf hz hQ hN hT hs hnd ps _ ℓ kn gen env' S _ w hdc' hps hI2 hk2 hk)
    split at h
    ·rename_i hg
     exact go kn hI (by simp [Region.wanted, hg]) h
    ·rename_i j want hg
     split at h
     ·exact h.elim
     ·rename_i g hgs
      have hy := qhk (a := a) hgs
      have hwant : Region.wanted o (yielded ops a.tmps) = (yielded ops a.tmps j == some want) := by simp [Region.wanted, hg]
      split at h
      ·rename_i b hkb
       have hgb : a.tmps.getD g undef = .bool b := hI.kn _ (qcb hkb)
       rw [hgb] at hy
       simp only at hy
       split at h
       ·rename_i hb
        have hb := qi1 hb
        exact go kn hI (by rw [hwant, hy, hb]; simp) h
       ·rename_i hb
        have hw : Region.wanted o (yielded ops a.tmps) = false := by
         rw [hwant, hy]
         cases b <;> cases want <;> simp_all [beqB]
        exact skip kn hI hw h
      ·rename_i hkn0
       split at h
       ·rename_i b tg hgf
        split at h
        ·rename_i s hsp
         have hge := qbu hI hgf
         simp only [SV.den] at hge
         by_cases hw : Region.wanted o (yielded ops a.tmps) = true
         ·have hw' := hw
          rw [hwant] at hw'
          have hbool : a.tmps.getD g undef = .bool want := by
           rw [hy] at hw'
           cases hv : a.tmps.getD g undef with
           | bool b' => rw [hv] at hw'; simp at hw'; rw [hw']
           | _ => rw [hv] at hw'; simp at hw'
          have htg : Holds a tg := by
           rcases Classical.em (Holds a tg) with h1 | h1
           ·exact h1
           ·have := hge.2 h1; rw [hbool] at this; cases this
          have hall : Holds a ((g, want) :: tg) := by
           intro q hq
           rcases List.mem_cons.1 hq with h1 | h1
           ·subst h1; exact hbool
           ·exact htg q h1
          have hallk : Holds a (((g, want) :: tg) ++ kn) := by
           intro q hq
           rcases List.mem_append.1 hq with h1 | h1
           ·exact hall q h1
           ·exact hI.kn q h1
          have hpure := qaq (qm3 (P := P) (tt := tt) hT hI hallk (hI.good.cls (W := W))) o hsp
          obtain ⟨gen', hk2, hI2⟩ := qfj hN (hz o hom) hI (v := s.den ℓ) (fun _ => ⟨hpure.1, rfl⟩) (fun hn => (hn hall).elim) h
          refine take (s.den ℓ) _ S ℓ rfl (.yields hw fun w1 hc1 => ?_) (fun _ h => h) (qcf hz hQ hN hT hs hnd ps _ ℓ kn gen' env S _ w hdc' hps hI2 hk2 hk)
          exact (qaq (qm3 hT hI hallk hc1) o hsp).2
         ·have hnot : ¬ Holds a ((g, want) :: tg) := by
           intro hh
           have := hh (g, want) (by simp)
           simp only at this
           rw [this] at hy
           simp only at hy
           rw [hwant, hy] at hw
           simp at hw
          obtain ⟨gen', hk2, hI2⟩ := qfj hN (hz o hom) hI (s := s) (v := undef) (fun hh => (hnot hh).elim) (fun _ => rfl) h
          exact take undef _ S ℓ rfl (.idle (by simpa using hw)) (fun _ h => h) (qcf hz hQ hN hT hs hnd ps _ ℓ kn gen' env S _ w hdc' hps hI2 hk2 hk)
        ·split at h
         ·have hge := qbu hI hgf
          simp only [SV.den] at hge
          have hgb : a.tmps.getD g undef = .bool b := hge.1 (by simp [Holds])
          rw [hgb] at hy
          simp only at hy
          have more : ∀ b', b = b' → Inv c ℓ ((g, b') :: kn) gen env S a w := by
           intro b' hbb
           refine ⟨hI.size, hI.defers, hI.env, hI.gen, fun p hp => ?_, hI.good, hI.fresh0, hI.pre, hI.ext, hI.fresh⟩
           rcases List.mem_cons.1 hp with e | e
           ·subst e; rw [hgb, hbb]
           ·exact hI.kn p e
          by_cases hbw : b = want
          ·exact go ((g, want) :: kn) (more want hbw) (by rw [hwant, hy, hbw]; simp) (h.t hbw)
          ·have hbf : b = flipB want := by cases b <;> cases want <;> simp_all [flipB]
           exact skip ((g, flipB want) :: kn) (more _ hbf) (by rw [hwant, hy]; simpa using hbw) (h.f (by rw [hbf]; cases want <;> rfl))
         ·rename_i x tg' _
          have hge := qbu hI hgf
          simp only [SV.den] at hge
          have inv : ∀ kn', Holds a kn' → Inv c ℓ kn' gen env S a w := fun kn' hk' => ⟨hI.size, hI.defers, hI.env, hI.gen, hk', hI.good, hI.fresh0, hI.pre, hI.ext, hI.fresh⟩
          rcases qea hI _ _ hI.kn h with ⟨kn', hk', hall, hA⟩ | ⟨kn', hk', hno, hB⟩
          ·have hgv : a.tmps.getD g undef = .bool want := hall (g, want) (by simp)
           rw [hgv] at hy
           simp only at hy
           exact go kn' (inv kn' hk') (by rw [hwant, hy]; simp) hA
          ·refine skip kn' (inv kn' hk') ?_ hB
           rw [Bool.eq_false_iff]
           intro hw
           rw [hwant] at hw
           have hbool : a.tmps.getD g undef = .bool want := by
            rw [hy] at hw
            cases hv : a.tmps.getD g undef with
            | bool b' => rw [hv] at hw; simp at hw; rw [hw]
            | _ => rw [hv] at hw; simp at hw
           have htg : Holds a (x :: tg') := by
            rcases Classical.em (Holds a (x :: tg')) with h1 | h1
            ·exact h1
            ·have := hge.2 h1; rw [hbool] at this; cases this
           refine hno (fun p hp => ?_)
           rw [List.reverse_cons, List.mem_append, List.mem_reverse, List.mem_singleton] at hp
           rcases hp with h1 | h1
           ·exact htg p h1
           ·subst h1; exact hbool
       ·exact h.elim
  ·cases hps
def vcOne (P : Program) (tt : Tab) (N : Nat) (ops : Array Oper) (U W : List Nat) (e : Nat) (t : DTree) (kn : Atoms) (gen : Gen) (env : Env) (S : St) (K : Env → St → Prop) (Kp : SV → St → Prop) : Prop :=
 match nth ops.toList e with
 | none => False
 | some o => vcEv P tt N ops U W e o kn gen env S (fun kn' env' S' => vcTree P tt N ops U W t kn' gen env' S' K Kp) Kp
theorem qj5 {N : Nat} {U W : List Nat} {kn : Atoms} {K : Env → St → Prop} {Kp : SV → St → Prop} : ∀ {cs : List (Nat × DTree)}, vcTrees P tt N ops U W cs kn gen env S K Kp → ∀ p ∈ cs, vcOne P tt N ops U W p.1 p.2 kn gen env S K Kp
 | [], _, p, hp => by simp at hp
 | [(e, t)], h, p, hp => by
  simp only [List.mem_singleton] at hp
  subst hp
  simp only [vcTrees] at h
  exact h
 | (e, t) :: q :: r, h, p, hp => by
  rw [vcTrees] at h
  ·rcases List.mem_cons.1 hp with h1 | h1
   ·subst h1; exact h.1
   ·exact qj5 h.2 p h1
  ·simp
mutual
theorem qfk {Q : Exit → Act → World → Prop} (hz : ∀ o ∈ ops.toList, ∀ d, o.dst = some d → d ∉ c.fz) (hQf : NoFrame c.fz Q) {N : Nat} (hN : c.N = N) (hT : TTOK P tt) (hs : Region.noSelect ops = true) (hnd : noDefers ops = true) {U W : List Nat} {K : Env → St → Prop} {Kp : SV → St → Prop} (hQ : OpsPost c K Kp Q) :
  ∀ (t : DTree) (listed : Array Bool) (fuel : Nat) (ℓ : List Base) (kn : Atoms) (gen : Gen) (env : Env) (S : St) (a : Act) (w : World), DC ops listed → treeFits ops U t listed fuel = true → Inv c ℓ kn gen env S a w → vcTree P tt N ops U W t kn gen env S K Kp → wpAnyC ro P ops Q (Cu U listed (Cls W S ℓ)) fuel listed a w
 | .leaf ps, listed, fuel, ℓ, kn, gen, env, S, a, w, hdc, hf, hI, h => by
  simp only [treeFits] at hf
  split at hf
  ·rename_i l hl
   simp only [Bool.and_eq_true, decide_eq_true_eq] at hf
   have hle := Nat.le_of_ble_eq_true hf.2
   simp only [vcTree] at h
   have := qcf (ro := ro) (fuel := fuel - ps.length) hz hQf hN hT hs hnd ps listed ℓ kn gen env S a w hdc hl hI h (fun ℓ' kn' gen' env' S' a' _ hI' hk' => qo7 hf.1 (fun _ => hI'.good.cls) (hQ.1 _ _ _ _ _ _ _ hI' hk') _)
   rwa [Nat.sub_add_cancel hle] at this
  ·cases hf
 | .node ps cs, listed, fuel, ℓ, kn, gen, env, S, a, w, hdc, hf, hI, h => by
  simp only [treeFits] at hf
  split at hf
  ·rename_i l hl
   simp only [Bool.and_eq_true, decide_eq_true_eq] at hf
   obtain ⟨⟨hready, hle, hne⟩, hcs⟩ := hf
   have hle := Nat.le_of_ble_eq_true hle
   simp only [vcTree] at h
   obtain ⟨k, hk⟩ : ∃ k, fuel - ps.length = k + 1 := ⟨fuel - ps.length - 1, by omega⟩
   have := qcf (ro := ro) (fuel := k + 1) hz hQf hN hT hs hnd ps listed ℓ kn gen env S a w hdc hl hI h (fun ℓ' kn' gen' env' S' a' hdcl hI' hk' => by
    refine ⟨fun _ => hI'.good.cls, fun hr => ?_, fun i hi => ?_⟩
    ·rw [hready] at hr
     cases cs with
     | nil => simp at hne
     | cons x r => simp at hr
    ·have hir := hi
     rw [hready] at hi
     obtain ⟨p, hp, rfl⟩ := List.mem_map.1 hi
     have hone := qj5 hk' p hp
     have hfit : treeFits ops U p.2 (l.setIfInBounds p.1 true) k = true := by
      rw [hk, Nat.add_sub_cancel] at hcs
      exact qh3 hcs p hp
     exact qkb hz hQf hN hT hs hnd hQ cs p hp l k ℓ' kn' gen' env' S' a' w hdcl hir hfit hI' hone)
   have e : k + 1 + ps.length = fuel := by omega
   rwa [e] at this
  ·cases hf
theorem qkb {Q : Exit → Act → World → Prop} (hz : ∀ o ∈ ops.toList, ∀ d, o.dst = some d → d ∉ c.fz) (hQf : NoFrame c.fz Q) {N : Nat} (hN : c.N = N) (hT : TTOK P tt) (hs : Region.noSelect ops = true) (hnd : noDefers ops = true) {U W : List Nat} {K : Env → St → Prop} {Kp : SV → St → Prop} (hQ : OpsPost c K Kp Q) :
  ∀ (cs : List (Nat × DTree)) (p : Nat × DTree), p ∈ cs → ∀ (l : Array Bool) (k : Nat) (ℓ : List Base) (kn : Atoms) (gen : Gen) (env : Env) (S : St) (a : Act) (w : World), DC ops l → p.1 ∈ Region.ready .any ops l → treeFits ops U p.2 (l.setIfInBounds p.1 true) k = true → Inv c ℓ kn gen env S a w → vcOne P tt N ops U W p.1 p.2 kn gen env S K Kp →
   wpOpIn (fen ro) 0 P ops Q p.1 (wpAnyC ro P ops Q (Cu U l (Cls W S ℓ)) k (l.setIfInBounds p.1 true)) a w
 | [], p, hp, _, _, _, _, _, _, _, _, _, _, _, _, _, _ => by simp at hp
 | (e, t) :: r, p, hp, l, k, ℓ, kn, gen, env, S, a, w, hdc, hrd, hfit, hI, hone => by
  by_cases heq : p = (e, t)
  ·subst heq
   unfold vcOne at hone
   split at hone
   ·exact hone.elim
   ·rename_i o ho
    have ho' : ops[e]? = some o := by rw [qab] at ho; simpa using ho
    have hom : o ∈ ops.toList := List.mem_of_getElem? (i := e) (by simpa using ho')
    have run : ∀ kn : Atoms, Inv c ℓ kn gen env S a w → Region.wanted o (yielded ops a.tmps) = true → vcEvDo P tt N U W e o kn gen env S (fun kn' env' S' => vcTree P tt N ops U W t kn' gen env' S' K Kp) Kp → wpOpIn (fen ro) 0 P ops Q e (wpAnyC ro P ops Q (Cu U l (Cls W S ℓ)) k (l.setIfInBounds e true)) a w := by
     intro kn hI hw hone
     unfold vcEvDo at hone
     unfold wpOpIn
     simp only [ho', hw, if_true]
     refine (qkc (al := kn) hT hI hI.kn ?_ ?_ hone)
     ·intro r' ℓ' S' w' hst hwf hkp
      unfold keepsIf at hkp
      have hdc' := hdc.step hrd
      have hsub : ∀ u, l.getD u false = true → (l.setIfInBounds e true).getD u false = true := fun u hu => getD_set_true hu
      split at hkp
      ·rename_i hmem
       obtain ⟨env', hk2, hI2⟩ := qa6 hN (hz o hom) (hI.step hst) hwf hkp
       refine wpAnyC.mono (l.setIfInBounds e true) (qg4 hsub (fun hno => ?_)) (fun _ h => h) (qfk hz hQf hN hT hs hnd hQ t _ k ℓ' kn gen env' S' _ w' hdc' hfit hI2 hk2)
       -- the operation is one of U that was not listed: nothing is claimed any more
       exfalso
       have h1 := (mem_ready.1 hrd).1
       have hlt : e < l.size := by
        rcases Nat.lt_or_ge e l.size with h' | h'
        ·exact h'
        ·simp [Array.getElem?_eq_none h'] at h1
       have h2 : l.getD e false = false := by simp [hlt] at h1 ⊢; exact h1
       have := hno e (memN_iff.1 hmem) h2
       simp [hlt] at this
      ·obtain ⟨hkept, hput⟩ := hkp
       obtain ⟨env', hk2, hI2⟩ := qa6 hN (hz o hom) (hI.step hst) hwf hput
       exact wpAnyC.mono (l.setIfInBounds e true) (qg4 hsub (fun _ w1 h1 => Cls.mono hI.good hst.pre hkept w1 h1)) (fun _ h => h) (qfk hz hQf hN hT hs hnd hQ t _ k ℓ' kn gen env' S' _ w' hdc' hfit hI2 hk2)
     ·intro v ℓ' S' w' hst hwf hk2
      exact hQ.2 _ _ _ _ _ (hI.step hst).noEnv hwf hk2
    have skip : ∀ kn : Atoms, Inv c ℓ kn gen env S a w → Region.wanted o (yielded ops a.tmps) = false → putK N o.dst undefS kn gen env (fun env' => vcTree P tt N ops U W t kn gen env' S K Kp) → wpOpIn (fen ro) 0 P ops Q e (wpAnyC ro P ops Q (Cu U l (Cls W S ℓ)) k (l.setIfInBounds e true)) a w := by
     intro kn hI hw hskip
     unfold wpOpIn
     simp only [ho', hw, Bool.false_eq_true, if_false]
     obtain ⟨env', hk2, hI2⟩ := qa6 hN (hz o hom) hI (s := undefS) rfl hskip
     have hsub : ∀ u, l.getD u false = true → (l.setIfInBounds e true).getD u false = true := fun u hu => getD_set_true hu
     exact ⟨fun _ _ => trivial, wpAnyC.mono (l.setIfInBounds e true) (qg4 hsub (fun _ w1 h1 => h1)) (fun _ h => h) (qfk hz hQf hN hT hs hnd hQ t _ k ℓ kn gen env' S _ w (hdc.step hrd) hfit hI2 hk2)⟩
    unfold vcEv at hone
    split at hone
    ·rename_i hg
     exact run kn hI (by simp [Region.wanted, hg]) hone
    ·rename_i j want hg
     split at hone
     ·exact hone.elim
     ·rename_i g hgs
      have hy := qhk (a := a) hgs
      have hwant : Region.wanted o (yielded ops a.tmps) = (yielded ops a.tmps j == some want) := by simp [Region.wanted, hg]
      split at hone
      ·rename_i b hkb
       have hgb : a.tmps.getD g undef = .bool b := hI.kn _ (qcb hkb)
       rw [hgb] at hy
       simp only at hy
       split at hone
       ·rename_i hb
        have hb := qi1 hb
        exact run kn hI (by rw [hwant, hy, hb]; simp) hone
       ·rename_i hb
        refine skip kn hI ?_ hone
        rw [hwant, hy]
        cases b <;> cases want <;> simp_all [beqB]
      ·rename_i hkn0
       split at hone
       ·rename_i b hb
        have hgb : a.tmps.getD g undef = .bool b := (hI.env _ _ hb).2
        rw [hgb] at hy
        simp only at hy
        have more : ∀ b', b = b' → Inv c ℓ ((g, b') :: kn) gen env S a w := by
         intro b' hbb
         refine ⟨hI.size, hI.defers, hI.env, hI.gen, fun p hp => ?_, hI.good, hI.fresh0, hI.pre, hI.ext, hI.fresh⟩
         rcases List.mem_cons.1 hp with e | e
         ·subst e; rw [hgb, hbb]
         ·exact hI.kn p e
        by_cases hbw : b = want
        ·exact run ((g, want) :: kn) (more want hbw) (by rw [hwant, hy, hbw]; simp) (hone.t hbw)
        ·have hbf : b = flipB want := by cases b <;> cases want <;> simp_all [flipB]
         refine skip ((g, flipB want) :: kn) (more _ hbf) ?_ (hone.f (by rw [hbf]; cases want <;> rfl))
         rw [hwant, hy]; simpa using hbw
       ·exact hone.elim
  ·exact qkb hz hQf hN hT hs hnd hQ r p (by rcases List.mem_cons.1 hp with h1 | h1; exact (heq h1).elim; exact h1) l k ℓ kn gen env S a w hdc hrd hfit hI hone
 end
theorem noFrame_QK (K : X → Env → St → Prop) : NoFrame c.fz (QK c K) := by
 rintro ch a w d v hd ⟨ℓ, S, v', hI, hv, rfl, hk⟩
 refine ⟨ℓ, S, v', ⟨⟨by rw [← qm5 a d v]; exact hI.size.1, fun t ht => by
  have h1 := hI.size.2.1 t ht
  cases d with
  | none => exact h1
  | some e =>
   have hne : t ≠ e := fun h => by subst h; exact hd _ rfl ht
   rwa [qal hne] at h1, by rw [← put_defers a d v]; exact hI.size.2.2⟩, by rw [← put_defers a d v]; exact hI.defers, fun t s h => by simp [find] at h, fun t s tags h => by simp [gfind] at h, by simp [Holds], by rw [← Ja_put (c := c) a d v]; exact hI.good, hI.fresh0, hI.pre, hI.ext, hI.fresh⟩, hv, rfl, hk⟩
def DrawsOK (dt : Draws) : Code → Bool
 | .region id ops draw => match draw with
  | false => true
  | true => match dt id with
   | some t => treeOK ops t
   | none => true
 | .seq a b => DrawsOK dt a && DrawsOK dt b
 | .cond _ a b => DrawsOK dt a && DrawsOK dt b
 | .block _ a => DrawsOK dt a
 | .loop a => DrawsOK dt a
 | .scope a => DrawsOK dt a
 | .rangeFunc _ _ a b => DrawsOK dt a && DrawsOK dt b
 | _ => true
theorem Inv.drew (hI : Inv c ℓ [] [] env S a w) : Inv c ℓ [] [] env S a { w with drawn := w.drawn + 1 } := by
 have hst : Stepped (c.Ja a) ℓ S w ℓ S { w with drawn := w.drawn + 1 } := by
  refine ⟨List.prefix_refl _, ⟨rfl, rfl, Nat.le_refl _, fun _ _ _ => rfl⟩, ?_, fun b hb => .inl hb⟩
  have h := hI.good
  refine ⟨h.len, h.nodup, h.lt, h.memJ, h.wf, ?_, ?_, ?_⟩
  ·intro i b k hi hk
   exact (h.own i b k hi hk).keep (qak h.wf hk) (fun _ _ => rfl) (fun _ _ hj => hj) (fun _ => rfl)
  ·intro ac hac; exact (h.accs ac hac).keep (fun x _ hj => ⟨hj, rfl⟩) (fun _ _ _ => rfl)
  ·intro p hp; exact Rep.map (w := w) (w' := { w with drawn := w.drawn + 1 }) (fun x _ hj => ⟨hj, rfl⟩) (h.reps p hp)
 exact hI.step hst
theorem draw_sound (hm : P.follows .mixedOrders = true) {N : Nat} (hN : c.N = N) (hT : TTOK P tt) {id : Nat} {t : DTree × List Nat × List Nat} (hok : treeOK ops t = true) {K : Env → St → Prop} {Kp : SV → St → Prop} {Q : Exit → Act → World → Prop} (hz : ∀ o ∈ ops.toList, ∀ d, o.dst = some d → d ∉ c.fz) (hQf : NoFrame c.fz Q) (hQ : OpsPost c K Kp Q)
  (hI : Inv c ℓ [] [] env S a w) (h : vcTree P tt N ops t.2.1 t.2.2 t.1 [] [] env S K Kp) : (Code.region id ops true).wpIn (fen ro) 0 P Q a w := by
 simp only [treeOK, Bool.and_eq_true] at hok
 refine wpIn_region_any hm (qlo (qfk hz hQf hN hT hok.1.1 hok.1.2 hQ t.1 _ _ ℓ [] [] env S a _ ?_ hok.2 hI.drew h))
 intro p q hq
 simp only [Array.getD_eq_getD_getElem?, Array.getElem?_replicate] at hq
 split at hq <;> simp at hq
end
end

section
open Go
section
variable {P : Program} {tt : Tab} {c : Cx} {ℓ : List Base} {kn : Atoms} {gen : Gen} {env : Env} {S : St} {a : Act} {w : World}
theorem Good.toJ {J J' : Nat → Prop} (h : Good J ℓ S w) (hJ : ∀ b, b < w.heap.size → J b → J' b) : Good J' ℓ S w := by
 have hx : ∀ x, x < w.heap.size → Jx J (mutS ℓ S) x → Jx J' (mutS ℓ S) x := fun x hx hj => ⟨hJ x hx hj.1, hj.2⟩
 refine ⟨h.len, h.nodup, h.lt, fun b hb => hJ b (h.lt b hb) (h.memJ b hb), h.wf, ?_, ?_, ?_⟩
 ·exact fun i b k hi hk => (h.own i b k hi hk).keep (qak h.wf hk) (fun _ _ => rfl) hx (fun _ => rfl)
 ·exact fun ac hac => (h.accs ac hac).keep (fun x hlt hj => ⟨hx x hlt hj, rfl⟩) (fun _ _ _ => rfl)
 ·exact fun p hp => (h.reps p hp).map (fun x hlt hj => ⟨hx x hlt hj, rfl⟩)
theorem Good.kept {J J' : Nat → Prop} {w' : World} (h : Good J ℓ S w) (hJ : ∀ b, J b → J' b) (hsz : w.heap.size ≤ w'.heap.size) (hw : ∀ b, b < w.heap.size → J b → w'.heap[b]? = w.heap[b]?) : Good J' ℓ S w' := by
 have hx : ∀ x, x < w.heap.size → Jx J (mutS ℓ S) x → Jx J' (mutS ℓ S) x ∧ w'.heap[x]? = w.heap[x]? := fun x hx hj => ⟨⟨hJ x hj.1, hj.2⟩, hw x hx hj.1⟩
 refine ⟨h.len, h.nodup, fun b hb => Nat.lt_of_lt_of_le (h.lt b hb) hsz, fun b hb => hJ b (h.memJ b hb), h.wf, ?_, ?_, ?_⟩
 ·intro i b k hi hk
  have h0 := h.own i b k hi hk
  have own : k.mut = true → b.block < w.heap.size → w'.heap[b.block]? = w.heap[b.block]? := fun hm hlt => by
   refine hw _ hlt (h.memJ _ ?_)
   simp only [mutS]
   exact List.mem_append.2 (.inl (mem_mutL.2 ⟨i, b, k, hi, hk, hm, rfl⟩))
  have hwk := qak h.wf hk
  cases k with
  | cells T cs => exact h0.keep hwk (fun _ _ => rfl) (fun x hlt hj => (hx x hlt hj).1) (own rfl)
  | obj o => exact h0.keep hwk (fun _ _ => rfl) (fun x hlt hj => (hx x hlt hj).1) (own rfl)
  | lp x => exact h0.keep hwk (fun _ _ => rfl) (fun x hlt hj => (hx x hlt hj).1) (own rfl)
  | iter i s n p => exact h0.keep hwk (fun _ _ => rfl) (fun x hlt hj => (hx x hlt hj).1) (own rfl)
  | imm cs =>
   have h1 := h0
   simp only [BlkOK] at h1
   exact h0.keep hwk (fun _ _ => rfl) (fun x hlt hj => (hx x hlt hj).1) (fun hlt => hw _ hlt h1.1.1)
  | dead => trivial
  | lost => trivial
 ·intro ac hac
  refine (h.accs ac hac).keep hx (fun x hxa hlt => hw x hlt (h.memJ x ?_))
  simp only [mutS]
  exact List.mem_append.2 (.inr (List.mem_flatMap.2 ⟨ac, hac, hxa⟩))
 ·exact fun p hp => (h.reps p hp).map hx
theorem Inv.mark (hI : Inv c ℓ kn gen env S a w) (hfz : c.fz = []) : Inv c ℓ kn gen env S { a with defers := markD w.heap.size :: a.defers } (w.alloc (.deferred (some []))) := by
 have hold : ∀ x, x < w.heap.size → (w.alloc (.deferred (some []))).heap[x]? = w.heap[x]? := fun x hx => by
  show (w.heap.push _)[x]? = _
  rw [Array.getElem?_push, if_neg (by omega)]
 have hsz : w.heap.size ≤ (w.alloc (.deferred (some []))).heap.size := by simp
 have hmarks : marksOf (markD w.heap.size :: a.defers) = w.heap.size :: marksOf a.defers := rfl
 refine ⟨⟨hI.size.1, hI.size.2.1, fun h => absurd hfz h⟩, ⟨?_, ?_, ?_⟩, hI.env, hI.gen, hI.kn, ?_, hI.fresh0, hI.pre, ?_, hI.fresh⟩
 ·exact hI.defers.eq
 ·rw [hmarks, List.nodup_cons]
  exact ⟨fun hm => by have := qag (hI.defers.blk _ hm).2; omega, hI.defers.nodup⟩
 ·intro r hr
  rw [hmarks] at hr
  rcases List.mem_cons.1 hr with h1 | h1
  ·subst h1; exact ⟨hI.ext.size, World.alloc_heap_new w _⟩
  ·exact ⟨(hI.defers.blk r h1).1, (hold r (qag (hI.defers.blk r h1).2)).trans (hI.defers.blk r h1).2⟩
 ·have h1 : Good (c.Ja { a with defers := markD w.heap.size :: a.defers }) ℓ S w := hI.good.toJ (fun b hb hj => ⟨hj.1, fun hm => by
   rw [hmarks] at hm
   rcases List.mem_cons.1 hm with h2 | h2
   ·omega
   ·exact hj.2 h2⟩)
  exact h1.kept (fun _ h => h) hsz (fun b hb _ => hold b hb)
 ·exact hI.ext.then (m' := []) ⟨rfl, rfl, hsz, fun b hb _ => hold b hb⟩ (by simp)
theorem Inv.record (hI : Inv c ℓ kn gen env S a w) {N : Nat} (hN : c.N = N) {env' : Env} (hle : envLe env env') (hwf : envWf S.own.length env' = true) (fn : FuncId) (fo : FuncId → Prop) (hfo : fo fn) (ps : Array Nat) (assign body : Code) (ds : Nat) :
  Stepped (c.Ja a) ℓ S w (ℓ ++ [⟨w.heap.size, 0⟩]) ⟨S.own ++ [.lp ⟨N, env', ps, assign, body, .ready, none, fo⟩], S.accs, S.reps⟩ (w.alloc (.loop { state := .ready, pending := none, fn, tmps := a.tmps, params := ps, assign, body, defers := ds })) := by
 have hold : ∀ x, x < w.heap.size → (w.alloc (.loop { state := .ready, pending := none, fn, tmps := a.tmps, params := ps, assign, body, defers := ds })).heap[x]? = w.heap[x]? := fun x hx => by
  show (w.heap.push _)[x]? = _
  rw [Array.getElem?_push, if_neg (by omega)]
 have hm := qd4 hI.good.len (S := S) ⟨w.heap.size, 0⟩ (.lp ⟨N, env', ps, assign, body, .ready, none, fo⟩)
 refine ⟨List.prefix_append _ _, ⟨rfl, rfl, by simp, fun x hx _ => hold x hx⟩, ?_, ?_⟩
 ·refine hI.good.push ⟨w.heap.size, 0⟩ (.lp _) hwf (fun _ => ⟨Nat.le_refl _, by simp, hI.freshJ _ (Nat.le_refl _)⟩) (by simp) hold ⟨rfl, _, World.alloc_heap_new w _, rfl, rfl, rfl, rfl, rfl, ?_, ?_⟩
  ·exact ⟨hI.size.1.trans hN, hfo⟩
  ·exact fun t s hs => (hI.env t s (qca hle t s hs)).2
 ·intro x hx
  rcases (hm x).1 hx with h1 | ⟨_, h1⟩
  ·exact .inl h1
  ·subst h1; exact .inr (Nat.le_refl _)
theorem Inv.rewrite (hI : Inv c ℓ kn gen env S a w) {n : Nat} {x : LoopX} (hx : nth S.own n = some (.lp x)) : ∃ b r, ℓ[n]? = some b ∧ w.heap[b.block]? = some (.loop r) ∧ r.state = x.state ∧ r.pending = x.pend ∧
  ∀ st pd, Stepped (c.Ja a) ℓ S w ℓ ⟨S.own.set n (.lp ⟨x.N, x.env, x.ps, x.assign, x.body, st, pd, x.fn⟩), S.accs, S.reps⟩ (w.putObj b.block (.loop { r with state := st, pending := pd })) := by
 have hk : S.own[n]? = some (.lp x) := by rw [← qab]; exact hx
 obtain ⟨b, hb, hok⟩ := qlx hI.good hk
 have hwf := qak hI.good.wf hk
 simp only [BlkOK] at hok
 obtain ⟨h0, r, hr, h1, h2, h3, h4, h5, h6, h7⟩ := hok
 refine ⟨b, r, hb, hr, h1, h2, fun st pd => ?_⟩
 have hlt := qag hr
 have hoth : ∀ y, y ≠ b.block → (w.putObj b.block (.loop { r with state := st, pending := pd })).heap[y]? = w.heap[y]? := fun y hy => World.putObj_heap_other hy
 have hbm : b.block ∈ mutS ℓ S := by simp only [mutS]; exact List.mem_append.2 (.inl (mem_mutL.2 ⟨n, b, _, hb, hk, rfl, rfl⟩))
 have hmut : mutS ℓ ⟨S.own.set n (.lp ⟨x.N, x.env, x.ps, x.assign, x.body, st, pd, x.fn⟩), S.accs, S.reps⟩ = mutS ℓ S := by
  simp only [mutS]; rw [qgj (k' := Blk.lp ⟨x.N, x.env, x.ps, x.assign, x.body, st, pd, x.fn⟩) hk rfl]
 refine ⟨List.prefix_refl _, ⟨rfl, rfl, by simp, fun y _ hy => hoth y (fun e => hy (e ▸ hbm))⟩, ?_, fun y hy => .inl (by rw [hmut] at hy; exact hy)⟩
 exact hI.good.update (k' := .lp ⟨x.N, x.env, x.ps, x.assign, x.body, st, pd, x.fn⟩) hk hb rfl rfl hwf (by simp) (fun y _ hy => hoth y hy) ⟨h0, _, World.putObj_heap_same hlt, rfl, rfl, h3, h4, h5, h6, h7⟩
structure Shut (rs : List Nat) (w w' : World) : Prop where
 os : w'.os = w.os
 output : w'.output = w.output
 size : w'.heap.size = w.heap.size
 same : ∀ b, b ∉ rs → w'.heap[b]? = w.heap[b]?
def Quiet (P : Program) (d : Deferred) : Prop := ∃ fv cap f args, d.target = .fn fv cap ∧ (∀ w, (invoke d.target d.args).run P w = .ok (.enter f args) w) ∧
 ∀ w, CallsDIn (fen none) 0 P f args .returning w (fun e u' w' => (∃ v, e = .returned v) ∧ u' = .returning ∧ w' = w)
theorem qbg {fn : Func} {tmps : Array Value} {R : Ending → World → Prop} {u : FrameMode} (hu : u ≠ .run) {w0 : World} : ∀ (base ds : List Deferred) (w : World), (∀ d ∈ base, u = .returning ∧ Quiet P d) → Marks w0 base ds w → (∀ w', Shut (marksOf ds) w w' → LeavesIn (fen none) 0 P fn tmps R [] u w') → LeavesInM (fen none) 0 P fn tmps R ds u w
 | base, [], w, hb, hm, h => h w ⟨rfl, rfl, rfl, fun _ _ => rfl⟩
 | base, d :: ds, w, hb, hm, h => by
  have heq := hm.eq
  cases ht : d.target with
  | collected r =>
   have hms : marksOf (d :: ds) = r :: marksOf ds := by simp only [marksOf, ht]
   have hre : restOf (d :: ds) = restOf ds := by simp only [restOf, ht]
   rw [hre] at heq
   have hr := (hm.blk r (by rw [hms]; simp)).2
   have hn := hm.nodup
   rw [hms, List.nodup_cons] at hn
   refine ⟨hu, .inl ⟨r, _, ht, run_takeDeferred hr, qbg (w0 := w0) hu base ds _ hb ⟨heq, hn.2, fun q hq => ?_⟩ ?_⟩⟩
   ·have hq' := hm.blk q (by rw [hms]; simp [hq])
    exact ⟨hq'.1, (World.putObj_heap_other (fun e => hn.1 (by rw [← e]; exact hq))).trans hq'.2⟩
   ·intro w' hs
    refine h w' ⟨hs.os, hs.output, hs.size.trans (by simp), fun b hb => ?_⟩
    rw [hms] at hb
    simp only [List.mem_cons, not_or] at hb
    rw [hs.same b hb.2, World.putObj_heap_other hb.1]
  | _ =>
   have hms : marksOf (d :: ds) = marksOf ds := by simp only [marksOf, ht]
   have hre : restOf (d :: ds) = d :: restOf ds := by simp only [restOf, ht]
   rw [hre] at heq
   obtain ⟨hur, fv, cap, f, args, h1, h2, h3⟩ := hb d (by rw [← heq]; simp)
   have hm' : Marks w0 (restOf ds) ds w := ⟨rfl, by have := hm.nodup; rw [hms] at this; exact this, fun r hr => hm.blk r (by rw [hms]; exact hr)⟩
   have hrec := qbg (w0 := w0) (R := R) (fn := fn) (tmps := tmps) hu (restOf ds) ds w (fun d' hd' => hb d' (by rw [← heq]; exact List.mem_cons_of_mem _ hd')) hm' (fun w' hs => h w' (by rw [hms]; exact hs))
   refine ⟨hu, .inr ⟨fun h => by simp [fen] at h, fv, cap, f, args, h1, h2 w, fun _ _ => trivial, ?_⟩⟩
   subst hur
   refine CallsDIn.mono (h3 w) ?_
   rintro e u' w' ⟨⟨v, rfl⟩, rfl, rfl⟩
   exact hrec
theorem qcp {fn : Func} {tmps : Array Value} {R : Ending → World → Prop} {u : FrameMode} (hu : u ≠ .run) {w0 : World} (ds : List Deferred) (w : World) (hm : Marks w0 [] ds w) (h : ∀ w', Shut (marksOf ds) w w' → LeavesIn (fen none) 0 P fn tmps R [] u w') : LeavesInM (fen none) 0 P fn tmps R ds u w :=
 qbg hu [] ds w (fun d hd => by cases hd) hm h
theorem Inv.shut (hI : Inv c ℓ kn gen env S a w) {w' : World} (hs : Shut (marksOf a.defers) w w') : Inv { c with base := [] } ℓ kn gen env S { a with defers := [] } w' := by
 refine ⟨⟨hI.size.1, hI.size.2.1, fun _ => rfl⟩, ⟨rfl, by simp [marksOf], by simp [marksOf]⟩, hI.env, hI.gen, hI.kn, ?_, hI.fresh0, hI.pre, ?_, hI.fresh⟩
 ·exact hI.good.kept (fun b hb => ⟨hb.1, by simp [marksOf]⟩) (Nat.le_of_eq hs.size.symm) (fun b _ hj => hs.same b hj.2)
 ·refine ⟨hs.os.trans hI.ext.os, hs.output.trans hI.ext.output, Nat.le_trans hI.ext.size (Nat.le_of_eq hs.size.symm), fun b hb hm => ?_⟩
  have hb : b < c.w0.heap.size := hb
  rw [hs.same b (fun hr => by have := (hI.defers.blk b hr).1; omega)]
  exact hI.ext.block b hb hm
theorem qjr : ∀ (m k : Nat) (ix : List Nat), firstN m k ix = true → ∀ i, i < m → ix[i]? = some (k + i)
 | 0, _, _, _, i, hi => by omega
 | m + 1, k, [], h, i, hi => by simp [firstN] at h
 | m + 1, k, j :: r, h, i, hi => by
  simp only [firstN] at h
  split at h
  ·rename_i hb
   have := Nat.eq_of_beq_eq_true hb
   subst this
   cases i with
   | zero => rfl
   | succ i => rw [List.getElem?_cons_succ, qjr m (j + 1) r h i (by omega)]; congr 1; omega
  ·cases h
theorem Inv.partR (hI : Inv c ℓ [] [] env S a w) {env' : Env} {S' : St} {ix : List Nat} (he : envLe env (envRen (rixD ix) env')) (hw : envWf S'.own.length env' = true) (hS : StLeR ix S S') (hf : firstN c.ℓ0.length 0 ix = true) : Inv c (ix.map (fun i => ℓ.getD i default)) [] [] env' S' a w := by
 obtain ⟨hle, hS⟩ := hS
 obtain ⟨hg, hmem⟩ := hS (c.Ja a) ℓ w hI.good
 refine ⟨hI.size, hI.defers, ?_, fun t s tags h => by simp [gfind] at h, by simp [Holds], hg, hI.fresh0, ?_, hI.ext, fun b hb => hI.fresh b (hmem b hb)⟩
 ·intro t s hs
  have h1 := qcg hw t s hs
  have h2 := hI.env t _ (qca he t _ (qmn hs))
  refine ⟨h1, ?_⟩
  rw [h2.2]
  refine qbi (n := S'.own.length) (fun i hi => ?_) s h1
  have hi' : i < ix.length := by omega
  simp [rixD, List.getD, List.getElem?_map, List.getElem?_eq_getElem hi']
 ·rw [List.prefix_iff_eq_take]
  apply List.ext_getElem?
  intro i
  rw [List.getElem?_take]
  split
  ·rename_i hi
   have h3 := qjr _ 0 ix hf i hi
   rw [Nat.zero_add] at h3
   rw [List.getElem?_map, h3, Option.map_some]
   have h4 := hI.pre
   obtain ⟨t, rfl⟩ := h4
   simp [List.getD, List.getElem?_append_left hi, List.getElem?_eq_getElem hi]
  ·rename_i hi
   exact List.getElem?_eq_none (by omega)
def wpB (b : Frame) (F : Fence) (n : Nat) (P : Program) (code : Code) (Q : Exit → Act → World → Prop) (a : Act) (w : World) : Prop :=
 ∀ (k : List Item) (cs : List Frame), b.roundOf = F.round → F.fn b.fn → F.room (cs.length + 1 + n) → ∃ e a' w', Q e a' w' ∧ ArrivesIn (Machine.fenced P F) P (lone (b.atR a (.code code :: k)) cs w) b k cs e a' w'
section rulesB
variable {b : Frame} {F : Fence} {n : Nat} {Q : Exit → Act → World → Prop}
theorem qe3 {code : Code} (h : code.wpIn F n P Q a w) : wpB b F n P code Q a w := fun k cs hro hb hr => h b k cs hro hb hr
theorem qav {code : Code} {Q' : Exit → Act → World → Prop} (h : wpB b F n P code Q a w) (hq : ∀ e a w, Q e a w → Q' e a w) : wpB b F n P code Q' a w :=
 fun k cs hro hb hr => let ⟨e, a', w', q, r⟩ := h k cs hro hb hr; ⟨e, a', w', hq _ _ _ q, r⟩
theorem qdp {x y : Code} (h : wpB b F n P x (Exit.then (wpB b F n P y Q) Q) a w) : wpB b F n P (Code.seq x y) Q a w := by
 intro k cs hro hb hr
 have h0 : (lone (b.atR a (.code (.seq x y) :: k)) cs w).fenced P F := fenced_calm hb hr rfl
 obtain ⟨e, a₁, w₁, hq, harr⟩ := h (.code y :: k) cs hro hb hr
 cases e with
 | normal =>
  obtain ⟨e₂, a₂, w₂, hq₂, harr₂⟩ := hq k cs hro hb hr
  exact ⟨e₂, a₂, w₂, hq₂, .of_steps (.head h0 stepR_seq harr) harr₂⟩
 | exit id => exact ⟨_, a₁, w₁, hq, .of_steps (.one h0 stepR_seq) (.pass (x := .code y) rfl (fun _ _ => .inl (by simp)) harr)⟩
 | goto l => exact ⟨_, a₁, w₁, hq, .of_steps (.one h0 stepR_seq) (.pass (x := .code y) rfl (fun _ _ => .inl (by simp)) harr)⟩
 | ret => exact ⟨_, a₁, w₁, hq, .of_steps (.one h0 stepR_seq) (.pass (x := .code y) rfl (fun _ _ => .inl (by simp)) harr)⟩
 | panic ch => exact ⟨_, a₁, w₁, hq, .of_steps (.one h0 stepR_seq) (.pass (x := .code y) rfl (fun _ _ => .inl (by simp)) harr)⟩
 | outgrown => exact ⟨_, a₁, w₁, hq, .of_steps (.one h0 stepR_seq) (.pass (x := .code y) rfl (fun _ _ => .inl (by simp)) harr)⟩
theorem wpB_cond {c : Operand} {x y : Code} {t : Bool} (hc : a.eval c = .bool t) (h : wpB b F n P (if t then x else y) Q a w) : wpB b F n P (Code.cond c x y) Q a w :=
 fun k cs hro hb hr => let ⟨e, a', w', q, r⟩ := h k cs hro hb hr; ⟨e, a', w', q, .of_steps (.one (fenced_calm hb hr rfl) (stepR_cond hc)) r⟩
theorem wpB_block {id : Nat} {c : Code} (h : wpB b F n P c (Exit.inBlock id Q) a w) : wpB b F n P (Code.block id c) Q a w := by
 intro k cs hro hb hr
 have h0 : (lone (b.atR a (.code (.block id c) :: k)) cs w).fenced P F := fenced_calm hb hr rfl
 obtain ⟨e, a₁, w₁, hq, harr⟩ := h (.inBlock id :: k) cs hro hb hr
 cases e with
 | normal => exact ⟨.normal, a₁, w₁, hq, .head h0 stepR_block (StepsIn.trans harr (.one (fenced_calm hb hr rfl) stepR_inBlock))⟩
 | exit id' =>
  by_cases hid : id' = id
  ·simp only [Exit.inBlock, hid, if_true] at hq
   exact ⟨.normal, a₁, w₁, hq, .head h0 stepR_block (harr.1 k (by simp [exitTo, hid]))⟩
  ·simp only [Exit.inBlock, hid, if_false] at hq
   have this : (id == id') = false := by simp; exact fun h => hid h.symm
   have hx : exitTo id' (.inBlock id :: k) = exitTo id' k := by simp [exitTo, this]
   exact ⟨.exit id', a₁, w₁, hq, fun k' hk => .head h0 stepR_block (harr.1 k' (by rw [hx]; exact hk)),
    fun hr' hk => let ⟨k₁, h1, h2⟩ := harr.2 hr' (by rw [hx]; exact hk); ⟨k₁, h1, .head h0 stepR_block h2⟩⟩
 | goto l =>
  have hx : gotoIn l (.inBlock id :: k) = gotoIn l k := by simp [gotoIn]
  exact ⟨_, a₁, w₁, hq, fun k' hk => .head h0 stepR_block (harr.1 k' (by rw [hx]; exact hk)),
   fun hr' hk => let ⟨k₁, h1, h2⟩ := harr.2 hr' (by rw [hx]; exact hk); ⟨k₁, h1, .head h0 stepR_block h2⟩⟩
 | ret => exact ⟨_, a₁, w₁, hq, .of_steps (.one h0 stepR_block) harr⟩
 | panic ch => exact ⟨_, a₁, w₁, hq, .of_steps (.one h0 stepR_block) harr⟩
 | outgrown => exact ⟨_, a₁, w₁, hq, .of_steps (.one h0 stepR_block) harr⟩
theorem wpB_loop {c : Code} (I : Act → World → Prop) (μ : Act → World → Nat) (h₀ : I a w)
  (round : ∀ a w, I a w → wpB b F n P c (Exit.then (fun a' w' => I a' w' ∧ μ a' w' < μ a w) Q) a w) : wpB b F n P (Code.loop c) Q a w := by
 intro k cs hro hb hr
 have key : ∀ j a w, μ a w = j → I a w →
   ∃ e a' w', Q e a' w' ∧ ArrivesIn (Machine.fenced P F) P (lone (b.atR a (.code c :: .inLoop c :: k)) cs w) b k cs e a' w' := by
  intro j
  induction j using Nat.strongRecOn with
  | _ j ih =>
   intro a w hn hI
   obtain ⟨e, a₁, w₁, hq, harr⟩ := round a w hI (.inLoop c :: k) cs hro hb hr
   cases e with
   | normal =>
    obtain ⟨hI₁, hlt⟩ := hq
    obtain ⟨e₂, a₂, w₂, hq₂, harr₂⟩ := ih (μ a₁ w₁) (hn ▸ hlt) a₁ w₁ rfl hI₁
    exact ⟨e₂, a₂, w₂, hq₂, .of_steps (StepsIn.trans harr (.one (fenced_calm hb hr rfl) stepR_inLoop)) harr₂⟩
   | exit id => exact ⟨_, a₁, w₁, hq, .pass (x := .inLoop c) rfl (fun _ _ => .inl (by simp)) harr⟩
   | goto l => exact ⟨_, a₁, w₁, hq, .pass (x := .inLoop c) rfl (fun _ _ => .inl (by simp)) harr⟩
   | ret => exact ⟨_, a₁, w₁, hq, .pass (x := .inLoop c) rfl (fun _ _ => .inl (by simp)) harr⟩
   | panic ch => exact ⟨_, a₁, w₁, hq, .pass (x := .inLoop c) rfl (fun _ _ => .inl (by simp)) harr⟩
   | outgrown => exact ⟨_, a₁, w₁, hq, .pass (x := .inLoop c) rfl (fun _ _ => .inl (by simp)) harr⟩
 obtain ⟨e, a', w', hq, harr⟩ := key _ a w rfl h₀
 exact ⟨e, a', w', hq, .of_steps (.one (fenced_calm hb hr rfl) stepR_loop) harr⟩
theorem qfw {c : Code} (I : Nat → Act → World → Prop) (n₀ : Nat) (h₀ : I n₀ a w)
  (round : ∀ m a w, I m a w → wpB b F n P c (Exit.then (fun a' w' => ∃ m', m' < m ∧ I m' a' w') Q) a w) : wpB b F n P (Code.loop c) Q a w := by
 refine wpB_loop (fun a w => ∃ m, I m a w) (fun a w => leastOf (fun m => I m a w)) ⟨n₀, h₀⟩ ?_
 intro a w hI
 refine qav (round _ a w (leastOf_spec hI).1) ?_
 intro e a' w' hq
 cases e with
 | normal =>
  obtain ⟨m', hlt, hI'⟩ := hq
  exact show (∃ m, I m a' w') ∧ leastOf (fun m => I m a' w') < leastOf (fun m => I m a w) from ⟨⟨m', hI'⟩, Nat.lt_of_le_of_lt ((leastOf_spec ⟨m', hI'⟩).2 m' hI') hlt⟩
 | exit id => exact hq
 | goto l => exact hq
 | ret => exact hq
 | panic ch => exact hq
 | outgrown => exact hq
theorem qob {body : Code} (hno : ∀ l a w, ¬ Q (.goto l) a w) (h : wpB b F n P body Q a w) : wpB b F n P (Code.scope body) Q a w := by
 intro k cs hro hb hr
 have s1 : step P (lone (b.atR a (.code (.scope body) :: k)) cs w) = .next (lone (b.atR a (.code body :: .inScope body :: k)) cs w) := step_lone_go (by simp [stepG, stepG.exec, Frame.atR])
 obtain ⟨e, a₁, w₁, hq, harr⟩ := h (.inScope body :: k) cs hro hb hr
 have first : StepsIn (Machine.fenced P F) P (lone (b.atR a (.code (.scope body) :: k)) cs w) (lone (b.atR a (.code body :: .inScope body :: k)) cs w) := .one (fenced_calm (fr := b.atR a (.code (.scope body) :: k)) hb hr rfl) s1
 have hx : ∀ id, exitTo id (.inScope body :: k) = exitTo id k := fun id => by simp [exitTo]
 cases e with
 | normal =>
  have s2 : step P (lone (b.atR a₁ (.inScope body :: k)) cs w₁) = .next (lone (b.atR a₁ k) cs w₁) := step_lone_go (by simp [stepG, stepG.exec, Frame.atR])
  exact ⟨.normal, a₁, w₁, hq, first.trans (StepsIn.trans harr (.one (fenced_calm (fr := b.atR a₁ (.inScope body :: k)) hb hr rfl) s2))⟩
 | exit id => exact ⟨.exit id, a₁, w₁, hq, fun k' hk => first.trans (harr.1 k' (by rw [hx]; exact hk)), fun hrd hk => let ⟨k₁, h1, h2⟩ := harr.2 hrd (by rw [hx]; exact hk); ⟨k₁, h1, first.trans h2⟩⟩
 | goto l => exact (hno l a₁ w₁ hq).elim
 | ret => exact ⟨.ret, a₁, w₁, hq, .of_steps first harr⟩
 | panic ch => exact ⟨.panic ch, a₁, w₁, hq, .of_steps first harr⟩
 | outgrown => exact ⟨.outgrown, a₁, w₁, hq, .of_steps first harr⟩
def rangePostB (b : Frame) (F : Fence) (n : Nat) (P : Program) (l : Nat) (Q : Exit → Act → World → Prop) (a' : Act) : Ending → World → Prop
 | .returned _, w₃ => ∃ jump w₄, (Instr.endLoop l).run P w₃ = .ok jump w₄ ∧
   (match jump with
    | none => Q .normal a' w₄
    | some c => wpB b F n P c Q a' w₄)
 | .panicked chain, w₃ => Q (.panic chain) a' w₃
 | .outgrown, _ => LetsOut Q
theorem qmd {g : Operand} {ps : Array Tmp} {assign body : Code}
  (h : ∃ (l : Nat) (mark : List Deferred) (w₁ : World) (d : Deferred) (w₁' : World) (f : FuncId) (args : Array Value) (w₂ : World),
   (Instr.enterLoop b.fn a.tmps ps assign body F.round).run P w = .ok (l, mark) w₁ ∧
   (resolve a.eval (rangeCall g l) 0).run P w₁ = .ok d w₁' ∧
   (∀ f', Target.leads P w₁' d.target d.args = some f' → F.fn f') ∧
   (invoke d.target d.args).run P w₁' = .ok (.enter f args) w₂ ∧
   (F.depth.isSome = true → 1 ≤ n) ∧
   CallsIn F (n - 1) P f args w₂ (rangePostB b F n P l Q { a with defers := mark ++ a.defers })) :
  wpB b F n P (Code.rangeFunc g ps assign body) Q a w := by
 intro k cs hro hb hr
 obtain ⟨l, mark, w₁, d, w₁', f, args, w₂, he, hres, hlead, hinv, hn, hF, hcall⟩ := h
 rw [← hro] at he
 have h0 : (lone (b.atR a (.code (.rangeFunc g ps assign body) :: k)) cs w).fenced P F := by
  refine fenced_lone (.inl hb) (fun f' hf' => hlead f' ?_) (Fence.room_le hr (by omega))
  have hev := Frame.eval_atR b a (.code (.rangeFunc g ps assign body) :: k)
  simp only [Frame.atR] at hev
  simp only [Frame.about, Frame.atR, he, hev, hres] at hf'
  exact hf'
 have henter := stepR_rangeFunc (P := P) (b := b) (a := a) (k := k) (cs := cs) (w := w) he hres hinv
 have hroom : F.room ((b.atR { a with defers := mark ++ a.defers } (.inRangeFunc l :: k) :: cs).length + 1 + (n - 1)) := Fence.room_enter hr hn
 obtain ⟨e, w₃, fr, hR, hsteps, hfn, hleave⟩ := hcall (b.atR { a with defers := mark ++ a.defers } (.inRangeFunc l :: k) :: cs) hroom
 cases e with
 | outgrown =>
  obtain ⟨a₀, w₀, hq⟩ := hR
  exact ⟨.outgrown, a₀, w₀, hq, .inr (Outgrown.of_steps (.one henter) hsteps)⟩
 | returned v =>
  have hl : (lone fr (b.atR { a with defers := mark ++ a.defers } (.inRangeFunc l :: k) :: cs) w₃).fenced P F := fenced_leaving (hfn ▸ hF) hroom hleave
  obtain ⟨jump, w₄, hend, hj⟩ := hR
  have sback : StepsIn (Machine.fenced P F) P (lone (b.atR a (.code (.rangeFunc g ps assign body) :: k)) cs w) (lone (b.atR { a with defers := mark ++ a.defers } ((jump.map Item.code).toList ++ k)) cs w₄) := by
   refine .head h0 henter (StepsIn.trans hsteps (.head hl ?_ (.one (fenced_calm (fr := b.atR { a with defers := mark ++ a.defers } (.endRangeFunc l :: k)) hb hr rfl) (stepR_endRangeFunc hend))))
   rw [← finish_atR_inRangeFunc l v]; exact step_leave_returned hleave
  cases jump with
  | none => exact ⟨.normal, _, w₄, hj, sback⟩
  | some c =>
   obtain ⟨e', a'', w₅, hq, harr⟩ := hj k cs hro hb hr
   exact ⟨e', a'', w₅, hq, .of_steps sback harr⟩
 | panicked chain =>
  have hl : (lone fr (b.atR { a with defers := mark ++ a.defers } (.inRangeFunc l :: k) :: cs) w₃).fenced P F := fenced_leaving (hfn ▸ hF) hroom hleave
  refine ⟨.panic chain, _, w₃, hR, .inRangeFunc l :: k, .head h0 henter (StepsIn.trans hsteps (.one hl ?_))⟩
  rw [← Frame.raise_atR]; exact step_leave_panicked hleave
theorem qci {f : FuncId} {fn : Func} {code : Code} {args : Array Value} {R : Ending → World → Prop} (hf : P.funcs[f]? = some fn) (hb : fn.body = some code) (hF : F.fn f)
  (h : ∀ b : Frame, b.fn = f → wpB b F n P code (bodyPostM F n P fn R) { tmps := args ++ Array.replicate (fn.ntmps - args.size) undef, defers := [] } w) (hro : F.round = none := by rfl) : CallsIn F n P f args w R := by
 refine ⟨hF, fun cs hr => ?_⟩
 let b : Frame := { (default : Frame) with fn := f, kind := .normal, roundOf := none }
 have henter : Frame.enter P f args .normal =
   b.atR { tmps := args ++ Array.replicate (fn.ntmps - args.size) undef, defers := [] } [.code code] := by
  simp [Frame.enter, Frame.atR, hf, hb, b]
 obtain ⟨e, a', w', hq, harr⟩ := h b rfl [] cs hro.symm hF hr
 rw [← henter] at harr
 cases e with
 | normal =>
  obtain ⟨e', w'', fr', hR, hs, hfn, hl⟩ := leaves_stepsInM a'.defers .returning w' { b.atR a' [] with mode := .returning } cs rfl rfl rfl hf rfl hF hr hq
  exact ⟨e', w'', fr', hR, ComesIn.of_steps (StepsIn.trans harr (.one (fenced_calm (fr := b.atR a' []) hF hr rfl) (stepR_end rfl))) hs, hfn, hl⟩
 | ret =>
  obtain ⟨todo, hs₀⟩ := harr.1 rfl
  obtain ⟨e', w'', fr', hR, hs, hfn, hl⟩ := leaves_stepsInM a'.defers .returning w' { b.atR a' todo with mode := .returning } cs rfl rfl rfl hf rfl hF hr hq
  exact ⟨e', w'', fr', hR, ComesIn.of_steps hs₀ hs, hfn, hl⟩
 | panic chain =>
  obtain ⟨todo, hs₀⟩ := harr
  obtain ⟨e', w'', fr', hR, hs, hfn, hl⟩ := leaves_stepsInM a'.defers (.panicking chain) w' { b.atR a' todo with mode := .panicking chain } cs rfl rfl rfl hf rfl hF hr hq
  exact ⟨e', w'', fr', hR, ComesIn.of_steps hs₀ hs, hfn, hl⟩
 | exit id => exact hq.elim
 | goto l => exact hq.elim
 | outgrown => exact ⟨.outgrown, w', b, hq, harr.resolve_left (by simp [b]), rfl, trivial⟩
def roundPostB (F : Fence) (n : Nat) (P : Program) (fn : Func) (l : Nat) (R : Ending → World → Prop) : Exit → Act → World → Prop
 | .panic chain, a, w => LeavesInM F n P fn a.tmps (fun e w' => (∃ ch, e = .panicked ch) ∧ R e w') a.defers (.panicking chain) w
 | e, a, w => roundPost P l R e a w
theorem qk3 {l : Nat} {f : FuncId} {fn : Func} {tmps : Array Value} {assign body : Code} {R : Ending → World → Prop} (hf : P.funcs[f]? = some fn) (hF : F.fn f)
  (h : ∀ b : Frame, b.fn = f → wpB b (F.inRound l) n P assign (Exit.then (fun a₁ w₁ => ∃ w₂, (Instr.beginRound l).run P w₁ = .ok () w₂ ∧ wpB b (F.inRound l) n P body (roundPostB F n P fn l R) a₁ w₂) (fun _ _ _ => False))
   { tmps := tmps, defers := [] } w) : RoundIn F n P l f tmps assign body w R := by
 refine ⟨hF, fun c cs hr => ?_⟩
 let b : Frame := { (default : Frame) with fn := f, kind := .normal, roundOf := some l }
 have hb0 : Frame.round l f tmps assign body .normal = b.atR { tmps := tmps, defers := [] } [.code assign, .beginRound, .code body] := by
  simp [Frame.round, Frame.atR, b]
 have hr' : (F.inRound l).room ((c :: cs).length + 1 + n) := hr
 have hF' : (F.inRound l).fn b.fn := hF
 obtain ⟨e, a₁, w₁, hq, harr⟩ := h b rfl [.beginRound, .code body] (c :: cs) rfl hF' hr'
 rw [← hb0] at harr
 cases e with
 | normal =>
  obtain ⟨w₂, hbr, hbody⟩ := hq
  have s1 : StepsIn (Machine.fenced P (F.inRound l)) P (lone (b.atR a₁ [.beginRound, .code body]) (c :: cs) w₁) (lone (b.atR a₁ [.code body]) (c :: cs) w₂) :=
   .one (fenced_calm (fr := b.atR a₁ [.beginRound, .code body]) hF' hr' rfl) (stepR_beginRound rfl hbr)
  obtain ⟨e₂, a₂, w₃, hq₂, harr₂⟩ := hbody [] (c :: cs) rfl hF' hr'
  cases e₂ with
  | normal =>
   obtain ⟨v, w₄, hend, hR⟩ := hq₂
   exact ⟨.returned v, w₄, hR, (StepsIn.trans harr s1).trans (StepsIn.trans harr₂ (.one (fenced_calm (fr := b.atR a₂ []) hF' hr' rfl) (stepR_round_end rfl rfl hend)))⟩
  | ret =>
   obtain ⟨v, w₄, hend, hR⟩ := hq₂
   obtain ⟨k₁, hs⟩ := harr₂.2 rfl
   exact ⟨.returned v, w₄, hR, (StepsIn.trans harr s1).trans (StepsIn.trans hs (.one (fenced_calm (fr := b.atR a₂ (.code .ret :: k₁)) hF' hr' rfl) (stepR_round_ret rfl rfl hend)))⟩
  | exit id =>
   obtain ⟨v, w₄, hend, hR⟩ := hq₂
   obtain ⟨k₁, hk, hs⟩ := harr₂.2 rfl rfl
   exact ⟨.returned v, w₄, hR, (StepsIn.trans harr s1).trans (StepsIn.trans hs (.one (fenced_calm (fr := b.atR a₂ (.code (.exit id) :: k₁)) hF' hr' rfl) (stepR_round_exit rfl rfl hk hend)))⟩
  | goto t =>
   obtain ⟨v, w₄, hend, hR⟩ := hq₂
   obtain ⟨k₁, hk, hs⟩ := harr₂.2 rfl rfl
   exact ⟨.returned v, w₄, hR, (StepsIn.trans harr s1).trans (StepsIn.trans hs (.one (fenced_calm (fr := b.atR a₂ (.code (.goto t) :: k₁)) hF' hr' rfl) (stepR_round_goto rfl rfl hk hend)))⟩
  | panic chain =>
   obtain ⟨todo, hs₀⟩ := harr₂
   obtain ⟨e', w₅, fr', ⟨⟨ch, rfl⟩, hR⟩, hs, hfn, hl⟩ := leaves_stepsInM a₂.defers (.panicking chain) w₃ { b.atR a₂ todo with mode := .panicking chain } (c :: cs) rfl rfl rfl hf rfl hF hr hq₂
   have hfe : (lone fr' (c :: cs) w₅).fenced P F := fenced_leaving (hfn ▸ hF) hr hl
   exact ⟨.panicked ch, w₅, hR, (StepsIn.trans harr s1).trans (StepsIn.trans hs₀ (StepsIn.trans hs (.one hfe (step_leave_panicked hl))))⟩
  | outgrown => exact hq₂.elim
 | exit id => exact hq.elim
 | goto t => exact hq.elim
 | ret => exact hq.elim
 | panic chain => exact hq.elim
 | outgrown => exact hq.elim
end rulesB
def FzOK (fz : List Nat) : Code → Bool
 | .region _ ops _ => ops.toList.all (fun o => match o.dst with
  | some d => !memN d fz
  | none => true)
 | .seq a b => FzOK fz a && FzOK fz b
 | .cond _ a b => FzOK fz a && FzOK fz b
 | .block _ a => FzOK fz a
 | .loop a => FzOK fz a
 | .scope a => FzOK fz a
 | .rangeFunc _ _ _ _ => fz.isEmpty
 | _ => true
theorem qmj : ∀ code : Code, FzOK [] code = true := by
 intro code
 induction code with
 | region id ops draw =>
  simp only [FzOK, List.all_eq_true]
  intro o _
  split <;> rfl
 | seq a b iha ihb => simp only [FzOK, iha, ihb, Bool.and_self]
 | cond x a b iha ihb => simp only [FzOK, iha, ihb, Bool.and_self]
 | block id a ih => simpa only [FzOK] using ih
 | loop a ih => simpa only [FzOK] using ih
 | scope a ih => simpa only [FzOK] using ih
 | _ => rfl
theorem qkw {fz : List Nat} {id : Nat} {ops : Array Oper} {draw : Bool} (h : FzOK fz (.region id ops draw) = true) : ∀ o ∈ ops.toList, ∀ d, o.dst = some d → d ∉ fz := by
 intro o ho d hd hm
 simp only [FzOK, List.all_eq_true] at h
 have := h o ho
 rw [hd] at this
 simp only [memN_iff.2 hm, Bool.not_true, Bool.false_eq_true] at this
theorem qa8 {N m : Nat} {dt : Draws} (hN : c.N = N) (hm : c.ℓ0.length = m) (hT : TTOK P tt)
  (hrx : ∀ i, c.rx = some i → i < m) (hD : P.follows .mixedOrders = true) {b : Frame} (hbf : c.fz = [] → (P.funcs[b.fn]?).isSome = true) :
  ∀ (code : Code), DrawsOK dt code = true → FzOK c.fz code = true → ∀ (cuts : List Nat) (K : X → Env → St → Prop) (ℓ : List Base) (env : Env) (S : St) (a : Act) (w : World), Inv c ℓ [] [] env S a w → vcC P tt N m c.rx dt code cuts K env S → wpB b (fen c.ro) 0 P code (QK c K) a w := by
 have hops : ∀ K, OpsPost c (fun env S => K .norm env S) (fun v S => K (.pan v) [] S) (QK c K) := fun K =>
  ⟨fun ℓ kn gen env S a w hI hk => ⟨ℓ, env, S, hI.bare, hk⟩, fun ℓ S a w v hI hv hk => ⟨ℓ, S, v, hI, hv, rfl, hk⟩⟩
 intro code
 induction code with
 | skip => intro _ _ cuts K ℓ env S a w hI h; exact qe3 (wpIn_skip ⟨ℓ, env, S, hI, h⟩)
 | label l => intro _ _ cuts K ℓ env S a w hI h; exact qe3 (wpIn_label ⟨ℓ, env, S, hI, h⟩)
 | region id ops draw =>
  intro hdr hfz cuts K ℓ env S a w hI h
  simp only [vcC_region, vcRegion] at h
  split at h
  ·exact qe3 (qcw (qoq hN hT (hops K) (qkw hfz) ops.toList 0 (by simp) ℓ [] [] env S a w hI h))
  ·split at h
   ·rename_i t U ht
    simp only [DrawsOK, ht] at hdr
    exact qe3 (draw_sound hD hN hT hdr (qkw hfz) (noFrame_QK K) (hops K) hI h)
   ·exact h.elim
 | seq x y ihx ihy =>
  intro hdr hfz cuts K ℓ env S a w hI h
  simp only [DrawsOK, Bool.and_eq_true] at hdr
  simp only [FzOK, Bool.and_eq_true] at hfz
  simp only [vcC_seq, vcSeq] at h
  split at h
  ·rcases h.ex with ⟨ι, inv, st, Φ, hwf, hA, hB⟩ | ⟨ι, inv, st, Φ, hwf, hA, hB⟩
   ·refine qdp (qav (ihx hdr.1 hfz.1 _ _ ℓ env S a w hI hA) ?_)
    intro e a' w' hq
    cases e with
    | normal =>
     obtain ⟨ℓ', env', S', hI', x, hΦ, he, hS⟩ := hq
     exact ihy hdr.2 hfz.2 cuts K _ (inv x) (st x) a' w' (hI'.part he (hwf x hΦ).1 hS (by rw [hm]; exact Nat.le_of_ble_eq_true (hwf x hΦ).2)) (hB x hΦ)
    | exit id => exact hq
    | goto l => exact hq
    | ret => exact hq
    | panic ch => exact hq
    | outgrown => exact hq
   ·refine qdp (qav (ihx hdr.1 hfz.1 _ _ ℓ env S a w hI hA) ?_)
    intro e a' w' hq
    cases e with
    | normal =>
     obtain ⟨ℓ', env', S', hI', x, ix, hΦ, he, hS, hf⟩ := hq
     exact ihy hdr.2 hfz.2 cuts K _ (inv x) (st x) a' w' (hI'.partR he (hwf x hΦ).1 hS (by rw [hm]; exact hf)) (hB x hΦ)
    | exit id => exact hq
    | goto l => exact hq
    | ret => exact hq
    | panic ch => exact hq
    | outgrown => exact hq
  ·refine qdp (qav (ihx hdr.1 hfz.1 _ _ ℓ env S a w hI h) ?_)
   intro e a' w' hq
   cases e with
   | normal => obtain ⟨ℓ', env', S', hI', hk⟩ := hq; exact ihy hdr.2 hfz.2 cuts K ℓ' env' S' a' w' hI' hk
   | exit id => exact hq
   | goto l => exact hq
   | ret => exact hq
   | panic ch => exact hq
   | outgrown => exact hq
 | cond x t e iht ihe =>
  intro hdr hfz cuts K ℓ env S a w hI h
  simp only [DrawsOK, Bool.and_eq_true] at hdr
  simp only [FzOK, Bool.and_eq_true] at hfz
  simp only [vcC_cond, vcCond] at h
  split at h
  ·rename_i bb hb
   have := qdl hI (al := []) (by simp [Holds]) (ex := []) (by simp [Holds]) hb
   refine wpB_cond (t := bb) this.2 ?_
   cases bb with
   | true => exact iht hdr.1 hfz.1 cuts K ℓ env S a w hI (h.t rfl)
   | false => exact ihe hdr.2 hfz.2 cuts K ℓ env S a w hI (h.f rfl)
  ·exact h.elim
 | block id body ih =>
  intro hdr hfz cuts K ℓ env S a w hI h
  simp only [DrawsOK, Bool.and_eq_true] at hdr
  simp only [FzOK, Bool.and_eq_true] at hfz
  simp only [vcC_block, vcBlock] at h
  refine wpB_block (qav (ih hdr hfz cuts _ ℓ env S a w hI h) ?_)
  intro e a' w' hq
  cases e with
  | normal => exact hq
  | exit id' =>
   obtain ⟨ℓ', env', S', hI', hk⟩ := hq
   simp only [blkK] at hk
   simp only [Exit.inBlock]
   by_cases hid : id' = id
   ·subst hid
    rw [if_pos rfl]
    simp only [Nat.beq_refl] at hk
    exact ⟨ℓ', env', S', hI', hk⟩
   ·rw [if_neg hid]
    have : Nat.beq id' id = false := by
     cases hbb : Nat.beq id' id with
     | false => rfl
     | true => exact (hid (Nat.eq_of_beq_eq_true hbb)).elim
    simp only [this] at hk
    exact ⟨ℓ', env', S', hI', hk⟩
  | goto l => exact hq
  | ret => exact hq
  | panic ch => exact hq
  | outgrown => exact hq
 | loop body ih =>
  intro hdr hfz cuts K ℓ env S a w hI h
  simp only [DrawsOK, Bool.and_eq_true] at hdr
  simp only [FzOK, Bool.and_eq_true] at hfz
  simp only [vcC_loop, vcLoop] at h
  rcases h.ex with ⟨ι, inv, st, Φ, μ, x0, hΦ, he, hS, hwf, hround⟩ | ⟨ι, inv, st, Φ, μ, x0, hΦ, he, hS, hwf, hround⟩
  ·refine qfw (fun n a w => ∃ x ℓ, μ x = n ∧ Φ x ∧ Inv c ℓ [] [] (inv x) (st x) a w) (μ x0) ⟨x0, _, rfl, hΦ, hI.part he (hwf x0 hΦ).1 hS (by rw [hm]; exact Nat.le_of_ble_eq_true (hwf x0 hΦ).2)⟩ ?_
   rintro n a w ⟨x, ℓ, rfl, hx, hIx⟩
   refine qav (ih hdr hfz cuts _ ℓ (inv x) (st x) a w hIx (hround x hx)) ?_
   intro e a' w' hq
   cases e with
   | normal =>
    obtain ⟨ℓ', env', S', hI', x', hΦ', hμ, he', hS'⟩ := hq
    exact ⟨μ x', hμ, x', _, rfl, hΦ', hI'.part he' (hwf x' hΦ').1 hS' (by rw [hm]; exact Nat.le_of_ble_eq_true (hwf x' hΦ').2)⟩
   | exit id => exact hq
   | goto l => exact hq
   | ret => exact hq
   | panic ch => exact hq
   | outgrown => exact hq
  ·refine qfw (fun n a w => ∃ x ℓ, μ x = n ∧ Φ x ∧ Inv c ℓ [] [] (inv x) (st x) a w) (μ x0) ⟨x0, _, rfl, hΦ, hI.part he (hwf x0 hΦ).1 hS (by rw [hm]; exact Nat.le_of_ble_eq_true (hwf x0 hΦ).2)⟩ ?_
   rintro n a w ⟨x, ℓ, rfl, hx, hIx⟩
   refine qav (ih hdr hfz cuts _ ℓ (inv x) (st x) a w hIx (hround x hx)) ?_
   intro e a' w' hq
   cases e with
   | normal =>
    obtain ⟨ℓ', env', S', hI', x', ix, hΦ', hμ, he', hS', hf⟩ := hq
    exact ⟨μ x', hμ, x', _, rfl, hΦ', hI'.partR he' (hwf x' hΦ').1 hS' (by rw [hm]; exact hf)⟩
   | exit id => exact hq
   | goto l => exact hq
   | ret => exact hq
   | panic ch => exact hq
   | outgrown => exact hq
 | exit id => intro _ _ cuts K ℓ env S a w hI h; exact qe3 (wpIn_exit ⟨ℓ, env, S, hI, h⟩)
 | ret => intro _ _ cuts K ℓ env S a w hI h; exact qe3 (wpIn_ret ⟨ℓ, env, S, hI, h⟩)
 | rangeFunc g ps assign body iha ihb =>
  intro _ hfz cuts K ℓ env S a w hI h
  have hfz' : c.fz = [] := by simpa [FzOK] using hfz
  simp only [vcC_rangeF, vcRangeF] at h
  split at h
  ·rename_i F hF
   have hev := (qdl hI (al := []) (by simp [Holds]) (ex := []) (by simp [Holds]) hF)
   obtain ⟨env', hle, hwfe, hrec, ⟨f, first, caps, rfl, hcall⟩, hspec⟩ := h.ex
   refine qmd ?_
   -- the record is laid (and, at an outermost loop, the block and its mark)
   have henter : ∃ (mark : List Deferred) (wd w1 : World) (ds : Nat), (Instr.enterLoop b.fn a.tmps ps assign body (fen c.ro).round).run P w = .ok (wd.heap.size, mark) w1 ∧
     Inv c ℓ [] [] env S { a with defers := mark ++ a.defers } wd ∧ w1 = wd.alloc (.loop { state := .ready, pending := none, fn := b.fn, tmps := a.tmps, params := ps, assign, body, defers := ds }) := by
    cases hx : c.rx with
    | none =>
     have hro : c.ro = none := by simp [Cx.ro, hx]
     rw [hro]
     refine ⟨[markD w.heap.size], w.alloc (.deferred (some [])), _, w.heap.size, ?_, hI.mark hfz', rfl⟩
     rw [show (fen none).round = none from rfl, run_enterLoop_outer]
     simp [markD]
    | some i =>
     have hlt := hrx i hx
     have hro : c.ro = some (c.ℓ0.getD i default).block := by simp [Cx.ro, hx]
     rw [hro]
     simp only [hx, inRec] at hrec
     split at hrec
     ·rename_i x hxo
      obtain ⟨b1, r, hb, hr, _⟩ := hI.rewrite hxo
      have hbb : (c.ℓ0.getD i default).block = b1.block := by
       rw [← qau hI.pre (by rw [hm]; exact hlt)]
       simp [List.getD, hb]
      refine ⟨[], w, _, r.defers, ?_, hI, rfl⟩
      rw [show (fen (some (c.ℓ0.getD i default).block)).round = some (c.ℓ0.getD i default).block from rfl, hbb, run_enterLoop_inner hr]
     ·cases hrec
   obtain ⟨mark, wd, w1, ds, he, hId, hw1⟩ := henter
   have hst := hId.record hN hle hwfe b.fn (exF P) (hbf hfz') ps assign body ds
   simp only at hst
   rw [← hw1] at hst
   have hI1 := hId.step hst
   obtain ⟨nx, hnx, hruns⟩ := hspec _ _ _ hI1.good hI1.freshJ
   have hyl : (SV.yld S.own.length).den (ℓ ++ [⟨wd.heap.size, 0⟩]) = .func (.yield wd.heap.size) #[] #[] := by
    simp only [SV.den]
    rw [← hId.good.len, qd7]
   have hsem : ((Cal.val (.fn (.func f) first caps)).sem (ℓ ++ [⟨wd.heap.size, 0⟩]) [.yld S.own.length]).run P w1 = .ok (.enter f (((qd (ℓ ++ [⟨wd.heap.size, 0⟩]) first).toArray ++ #[.func (.yield wd.heap.size) #[] #[]]) ++ (qd (ℓ ++ [⟨wd.heap.size, 0⟩]) caps).toArray)) w1 := by
    simp only [Cal.sem, qd, hyl]
    simp only [SV.den, Deferred.ofValue, Sem.run_bind, Sem.run_pure, Result.andThen_ok, invoke]
    exact hcall _ _
   rw [hsem] at hnx
   simp only [Result.ok.injEq, and_true] at hnx
   subst hnx
   have hden : (SV.fn (.func f) first caps).den (ℓ ++ [⟨wd.heap.size, 0⟩]) = (SV.fn (.func f) first caps).den ℓ := qy (n := S.own.length) (fun i hi => qaw (by rw [hId.good.len]; exact hi)) _ hev.1
   simp only [SV.den, Value.func.injEq, true_and] at hden
   refine ⟨wd.heap.size, mark, w1, { target := .fn (.func f) (qd ℓ caps).toArray, args := (qd ℓ first).toArray ++ #[.func (.yield wd.heap.size) #[] #[]] }, w1, f, ((qd ℓ first).toArray ++ #[.func (.yield wd.heap.size) #[] #[]]) ++ (qd ℓ caps).toArray, w1, he, ?_, fun _ _ => trivial, ?_, fun h => by simp [fen] at h, ?_⟩
   ·simp only [resolve, hev.2, SV.den, Deferred.ofValue]
    simp [Act.eval]
   ·simp only [invoke]
    exact hcall _ _
   ·refine CallsIn.mono (R := _) (by rw [← hden.1, ← hden.2]; exact hruns) ?_
    rintro e w3 ⟨ℓ', o, S', heq, hwo, hpre, hx, hG', hf, hR⟩
    have hI3 := hI1.step ⟨hpre, hx, hG', hf⟩
    cases o with
    | pan v =>
     subst heq
     exact ⟨ℓ', S', v, hI3.noEnv, hwo, rfl, hR⟩
    | ret rv =>
     subst heq
     simp only [afterLoop] at hR
     split at hR
     ·rename_i x hxo
      split at hR
      ·exact hR.elim
      ·rename_i hnb
       rw [qu, qan] at hR
       obtain ⟨b1, r, hb, hr, hrs, hrp, hstp⟩ := hI3.rewrite hxo
       have hbb : b1.block = wd.heap.size := by
        have h1 := qau hpre (i := S.own.length) (by simp [hId.good.len])
        rw [← hId.good.len, qd7] at h1
        rw [← hId.good.len] at hb
        simp only [List.getD, hb, Option.getD_some] at h1
        rw [h1]
       rw [← hbb]
       refine ⟨r.pending, _, run_endLoop hr (by rw [hrs]; exact fun e => hnb e), ?_⟩
       have hI4 := hI3.step (hstp .exhausted r.pending)
       rw [hrp] at hI4 ⊢
       split at hR
       ·rename_i hp
        rw [hp]
        rw [hp] at hI4
        exact ⟨ℓ', env, _, hI4, by rw [hp] at hR; exact hR⟩
       ·rename_i hp
        rw [hp]
        rw [hp] at hI4
        exact qe3 (wpIn_ret ⟨ℓ', env, _, hI4, by rw [hp] at hR; exact hR⟩)
       ·rename_i id hp
        rw [hp]
        rw [hp] at hI4
        exact qe3 (wpIn_exit ⟨ℓ', env, _, hI4, by rw [hp] at hR; exact hR⟩)
       ·exact hR.elim
     ·exact hR.elim
  ·exact h.elim
 | scope body ih =>
  intro hdr hfz cuts K ℓ env S a w hI h
  simp only [DrawsOK] at hdr
  simp only [FzOK] at hfz
  simp only [vcC_scope] at h
  exact qob (fun _ _ _ hq => hq) (ih hdr hfz cuts K ℓ env S a w hI h)
 | goto l => intro _ _ cuts K ℓ env S a w hI h; exact h.elim
 | refuse why => intro _ _ cuts K ℓ env S a w hI h; exact h.elim
theorem qf0 {J : Nat → Prop} {m : Nat} {o : Out} {R : Out → St → Prop} {S0 : St} {ℓ0 : List Base} {w0 : World} (hc1 : c.ℓ0 = ℓ0) (hc2 : c.S0 = S0) (hc3 : c.w0 = w0) (hm : c.ℓ0.length = m) (hI : Inv c ℓ [] [] env S a w) (hJ : ∀ b, c.Ja a b → J b) (hr : AtRet m o S R) : CallPost J ℓ0 S0 w0 R (o.ending ℓ) w := by
 subst hc1 hc2 hc3
 obtain ⟨S2, hS2, hm2, hwf2, hR⟩ := hr.ex
 have hI2 := hI.part (env' := []) (by simp [envLe]) (by simp [envWf]) hS2 (by rw [hm]; exact hm2)
 have hcong : ∀ i, i < S2.own.length → (ℓ.take S2.own.length).getD i default = ℓ.getD i default := fun i hi => by simp [List.getD, List.getElem?_take, hi]
 refine ⟨ℓ.take S2.own.length, o, S2, ?_, hwf2, hI2.pre, hI2.ext, hI2.good.toJ (fun b _ hb => hJ b hb), hI2.fresh, hR⟩
 cases o with
 | ret r => simp only [Out.ending]; rw [qy hcong r hwf2]
 | pan v => simp only [Out.ending]; rw [qy hcong v hwf2]
theorem qb {f : FuncId} {fn : Func} {code : Code} {N m : Nat} {dt : Draws} {caps args : List SV} {R : Out → St → Prop} (cuts : List Nat) (hT : TTOK P tt) (hf : P.funcs[f]? = some fn) (hb : fn.body = some code) (hcall : ∀ ag w, (callFunc f ag).run P w = .ok (.enter f ag) w)
  (hN : fn.ntmps = N) (hle : Nat.ble (args ++ caps).length N = true) (hwf : qr S.own.length (args ++ caps) = true) (hm : S.own.length = m)
  (hD : P.follows .mixedOrders = true) (hdr : DrawsOK dt code = true)
  (h : vcC P tt N m none dt code cuts (vcEnd tt m fn.results.toList R) (argEnv 0 (args ++ caps)) S) : Meets P (.val (.fn (.func f) [] caps)) args S R := by
 intro J ℓ w hG hJ
 refine ⟨.enter f (qd ℓ (args ++ caps)).toArray, ?_, ?_⟩
 ·simp only [Cal.sem, SV.den, qd, Deferred.ofValue, Sem.run_bind, Sem.run_pure, Result.andThen_ok, invoke, qar]
  simpa using hcall _ w
 ·let c : Cx := ⟨J, ℓ, S, w, N, none, [], [], #[]⟩
  have hsz : (qd ℓ (args ++ caps)).toArray.size ≤ fn.ntmps := by
   rw [List.size_toArray, qo, hN]; exact Nat.le_of_ble_eq_true hle
  have hI : Inv c ℓ [] [] (argEnv 0 (args ++ caps)) S { tmps := (qd ℓ (args ++ caps)).toArray ++ Array.replicate (fn.ntmps - (qd ℓ (args ++ caps)).toArray.size) undef, defers := [] } w := by
   refine ⟨?_, ⟨rfl, by simp [marksOf], by simp [marksOf]⟩, ?_, fun t s tags h => by simp [gfind] at h, by simp [Holds], hG.toJ (fun b _ hb => ⟨hb, by simp [marksOf]⟩), hJ, List.prefix_refl _, Ext.refl _ _, fun b hb => .inl hb⟩
   ·refine ⟨?_, (fun t ht => by cases ht), fun h => absurd rfl h⟩
    show (_ : Nat) = N
    rw [Array.size_append, Array.size_replicate]; omega
   ·intro t s hs
    obtain ⟨_, hs⟩ := qb9 _ _ _ _ hs
    rw [Nat.sub_zero] at hs
    refine ⟨SV.wfL_iff.1 hwf s (List.mem_of_getElem? hs), ?_⟩
    have hlt : t < (args ++ caps).length := (List.getElem?_eq_some_iff.1 hs).1
    have hget : (qd ℓ (args ++ caps))[t]? = some (s.den ℓ) := by rw [qcx, hs]; rfl
    rw [Array.getD_eq_getD_getElem?, Array.getElem?_append_left (by rw [List.size_toArray, qo]; exact hlt)]
    simp [hget]
  have hm' : c.ℓ0.length = m := by rw [← hm]; exact hG.len
  refine qci (F := fen none) hf hb trivial (fun b hbf => qav (qa8 (c := c) rfl hm' hT (fun i hi => by cases hi) hD (b := b) (fun _ => by rw [hbf, hf]; rfl) code hdr (qmj _) cuts _ ℓ _ S _ w hI h) ?_)
  have hret : ∀ ℓ' env' S' a' w' r, Inv c ℓ' [] [] env' S' a' w' → resOf tt S'.own env' fn.results.toList = some r → AtRet m (.ret r) S' R → LeavesInM (fen none) 0 P fn a'.tmps (CallPost J ℓ S w R) a'.defers .returning w' := by
   intro ℓ' env' S' a' w' r hI' hr hk
   refine qcp (by simp) _ _ hI'.defers (fun w2 hs => ?_)
   have hI2 := hI'.shut hs
   have hres := qb5 (P := P) hT (fn := fn) hI2 hr
   exact ⟨_, hres.2, qf0 (c := c) rfl rfl rfl hm' hI2 (fun b hb => hb.1) hk⟩
  intro e a' w' hq
  cases e with
  | normal =>
   obtain ⟨ℓ', env', S', hI', hk⟩ := hq
   simp only [vcEnd] at hk
   split at hk
   ·rename_i r hr
    exact hret _ _ _ _ _ _ hI' hr hk
   ·exact hk.elim
  | ret =>
   obtain ⟨ℓ', env', S', hI', hk⟩ := hq
   simp only [vcEnd] at hk
   split at hk
   ·rename_i r hr
    exact hret _ _ _ _ _ _ hI' hr hk
   ·exact hk.elim
  | exit id =>
   obtain ⟨ℓ', env', S', hI', hk⟩ := hq
   exact hk.elim
  | goto l => exact hq.elim
  | panic ch =>
   obtain ⟨ℓ', S', v, hI', hv, rfl, hk⟩ := hq
   refine qcp (by simp) _ _ hI'.defers (fun w2 hs => ?_)
   exact qf0 (c := c) (o := .pan v) rfl rfl rfl hm' (hI'.shut hs) (fun b hb => hb.1) hk
  | outgrown => exact hq.elim
theorem bind_env {N n : Nat} : ∀ (ps : List Nat) (ss : List SV) (env : Env) (tmps : Array Value), tmps.size = N → (∀ p ∈ ps, p < N) → qr n ss = true → EnvOK ℓ n env ⟨tmps, []⟩ →
  ((ps.zip (qd ℓ ss)).foldl (fun tmps (t, v) => tmps.setIfInBounds t v) tmps).size = N ∧ EnvOK ℓ n (bindPs ps ss env) ⟨(ps.zip (qd ℓ ss)).foldl (fun tmps (t, v) => tmps.setIfInBounds t v) tmps, []⟩
 | [], ss, env, tmps, hN, _, _, h => by simpa [bindPs] using ⟨hN, h⟩
 | p :: ps, [], env, tmps, hN, _, _, h => by simpa [bindPs, qd] using ⟨hN, h⟩
 | p :: ps, s :: ss, env, tmps, hN, hp, hw, h => by
  simp only [qr, Bool.and_eq_true] at hw
  simp only [qd, List.zip_cons_cons, List.foldl_cons, bindPs]
  refine bind_env ps ss _ _ (by simp [hN]) (fun q hq => hp q (by simp [hq])) hw.2 ?_
  intro t s' hs'
  have hlt : p < tmps.size := by rw [hN]; exact hp p (by simp)
  simp only [find] at hs'
  split at hs'
  ·rename_i hb
   have hb := Nat.eq_of_beq_eq_true hb
   cases hs'
   subst hb
   exact ⟨hw.1, qes (a := ⟨tmps, []⟩) hlt⟩
  ·rename_i hb
   have hne : t ≠ p := fun e => by subst e; simp at hb
   have := h t s' hs'
   exact ⟨this.1, (qal (a := ⟨tmps, []⟩) hne).trans this.2⟩
theorem qcv {i : Nat} {x : LoopX} {N m : Nat} {dt : Draws} {args : List SV} {R : Out → St → Prop} (cuts : List Nat) (hT : TTOK P tt) (hi : nth S.own i = some (.lp x)) (hps : x.ps.size = args.length) (hN : x.N = N) (hb : (x.ps.toList.all fun p => Nat.blt p N) = true)
  (hwf : qr S.own.length args = true) (hm : S.own.length = m) (hD : P.follows .mixedOrders = true) (hdr : DrawsOK dt x.assign = true) (hdr' : DrawsOK dt x.body = true)
  (h : vcC P tt N m (some i) dt x.assign cuts (seqK (fun env S => beginS i S (fun S => vcC P tt N m (some i) dt x.body cuts (roundEnd m i R) env S)) (fun _ _ _ => False)) (bindPs x.ps.toList args x.env) S) (hx : x.fn = exF P := by rfl) : Meets P (.val (.yld i)) args S R := by
 intro J ℓ w hG hJ
 have hk : S.own[i]? = some (.lp x) := by rw [← qab]; exact hi
 have hilt : i < S.own.length := (List.getElem?_eq_some_iff.1 hk).1
 obtain ⟨b, hbl, hok⟩ := qlx hG hk
 have hwfx := qak hG.wf hk
 simp only [BlkOK] at hok
 obtain ⟨h0, r, hr, e1, e2, e3, e4, e5, e6, e7⟩ := hok
 have hden : (SV.yld i).den ℓ = .func (.yield b.block) #[] #[] := by simp [SV.den, List.getD, hbl]
 have hyl := run_yield (P := P) (args := (qd ℓ args).toArray) hr (by simp [qo, e3, hps])
 refine ⟨.round b.block r.fn ((r.params.zip (qd ℓ args).toArray).foldl (fun tmps (t, a) => tmps.setIfInBounds t a) r.tmps) r.assign r.body, ?_, ?_⟩
 ·simp only [Cal.sem, hden, Deferred.ofValue, Sem.run_bind, Sem.run_pure, Result.andThen_ok, invoke]
  simpa using hyl
 ·let c : Cx := ⟨J, ℓ, S, w, N, some i, [], [], #[]⟩
  have hro : c.ro = some b.block := by simp [Cx.ro, c, List.getD, hbl]
  have hm' : c.ℓ0.length = m := by rw [← hm]; exact hG.len
  have hbind := bind_env (ℓ := ℓ) (n := S.own.length) x.ps.toList args x.env r.tmps (N := N) (by rw [e6.1, hN]) (fun p hp => by simpa using List.all_eq_true.1 hb p hp) hwf (fun t s hs => ⟨qcg hwfx t s hs, e7 t s hs⟩)
  have hfold : (r.params.zip (qd ℓ args).toArray).foldl (fun tmps (t, a) => tmps.setIfInBounds t a) r.tmps = (x.ps.toList.zip (qd ℓ args)).foldl (fun tmps (t, v) => tmps.setIfInBounds t v) r.tmps := by
   rw [← Array.foldl_toList, Array.toList_zip, e3]
  show RoundIn (fen none) 0 P b.block r.fn _ r.assign r.body w (CallPost J ℓ S w R)
  rw [hfold, e4, e5]
  have hI : Inv c ℓ [] [] (bindPs x.ps.toList args x.env) S { tmps := (x.ps.toList.zip (qd ℓ args)).foldl (fun tmps (t, v) => tmps.setIfInBounds t v) r.tmps, defers := [] } w :=
   ⟨⟨hbind.1, (fun t ht => by cases ht), fun h => absurd rfl h⟩, ⟨rfl, by simp [marksOf], by simp [marksOf]⟩, hbind.2, fun t s tags h => by simp [gfind] at h, by simp [Holds], hG.toJ (fun b _ hb => ⟨hb, by simp [marksOf]⟩), hJ, List.prefix_refl _, Ext.refl _ _, fun b hb => .inl hb⟩
  have hrx : ∀ j, c.rx = some j → j < m := fun j hj => by cases hj; omega
  have hfen : (fen none).inRound b.block = fen c.ro := by rw [hro]; rfl
  obtain ⟨fn0, hfn0⟩ : ∃ fn0, P.funcs[r.fn]? = some fn0 := by
   have := e6.2
   rw [hx] at this
   exact Option.isSome_iff_exists.1 this
  refine qk3 (F := fen none) hfn0 trivial (fun b0 hb0 => ?_)
  have hbf : (P.funcs[b0.fn]?).isSome = true := by rw [hb0, hfn0]; rfl
  rw [hfen]
  have hbase : ∀ {ℓ' : List Base} {b' : Base}, ℓ <+: ℓ' → ℓ'[i]? = some b' → b' = b := by
   intro ℓ' b' hp hb'
   have h1 := qau hp (i := i) (by rw [hG.len]; exact hilt)
   simp only [List.getD, hb', hbl, Option.getD_some] at h1
   exact h1
  refine qav (qa8 (c := c) rfl hm' hT hrx hD (fun _ => hbf) x.assign hdr (qmj _) cuts _ ℓ _ S _ w hI h) ?_
  intro e a1 w1 hq
  cases e with
  | normal =>
   obtain ⟨ℓ1, env1, S1, hI1, hk1⟩ := hq
   simp only [seqK, beginS] at hk1
   split at hk1
   ·rename_i x1 hx1
    split at hk1
    ·rename_i hready
     rw [qu, qan] at hk1
     obtain ⟨b1, r1, hb1, hr1, hs1, hp1, hst1⟩ := hI1.rewrite hx1
     have := hbase hI1.pre hb1
     subst this
     refine ⟨_, run_beginRound hr1 (hs1.trans hready), ?_⟩
     have hI2 := hI1.step (hst1 .busy r1.pending)
     rw [show ({ r1 with state := .busy } : Loop) = { r1 with state := .busy, pending := r1.pending } from rfl]
     rw [hp1] at hI2 ⊢
     refine qav (qa8 (c := c) rfl hm' hT hrx hD (fun _ => hbf) x.body hdr' (qmj _) cuts _ ℓ1 _ _ _ _ hI2 hk1) ?_
     have leave : ∀ (j : Option Code) (ℓ3 : List Base) (env3 : Env) (S3 : St) (a3 : Act) (w3 : World), Inv c ℓ3 [] [] env3 S3 a3 w3 → endS i j S3 (fun S' => AtRet m (.ret (.v (.bool j.isNone))) S' R) → ∃ v w', (Instr.endRound b1.block j).run P w3 = .ok v w' ∧ CallPost J ℓ S w R (.returned v) w' := by
      intro j ℓ3 env3 S3 a3 w3 hI3 hk3
      simp only [endS] at hk3
      split at hk3
      ·rename_i x3 hx3
       rw [qu, qan] at hk3
       obtain ⟨b3, r3, hb3, hr3, _, _, hst3⟩ := hI3.rewrite hx3
       have := hbase hI3.pre hb3
       subst this
       have hI4 := hI3.step (hst3 (stOf j) j)
       refine ⟨_, _, run_endRound j hr3, ?_⟩
       have hst : (if j.isNone then LoopState.ready else .done) = stOf j := by cases j <;> rfl
       rw [hst]
       exact qf0 (c := c) (o := .ret (.v (.bool j.isNone))) rfl rfl rfl hm' hI4 (fun b hb => hb.1) hk3
      ·exact hk3.elim
     intro e a3 w3 hq
     cases e with
     | normal => obtain ⟨ℓ3, env3, S3, hI3, hk3⟩ := hq; exact leave none ℓ3 env3 S3 a3 w3 hI3 hk3
     | ret => obtain ⟨ℓ3, env3, S3, hI3, hk3⟩ := hq; exact leave (some .ret) ℓ3 env3 S3 a3 w3 hI3 hk3
     | exit id => obtain ⟨ℓ3, env3, S3, hI3, hk3⟩ := hq; exact leave (some (.exit id)) ℓ3 env3 S3 a3 w3 hI3 hk3
     | goto l => exact hq.elim
     | panic ch =>
      obtain ⟨ℓ3, S3, v, hI3, hv, rfl, hk3⟩ := hq
      exact qcp (by simp) _ _ hI3.defers (fun w2 hs => ⟨⟨_, rfl⟩, qf0 (c := c) (o := .pan v) rfl rfl rfl hm' (hI3.shut hs) (fun b hb => hb.1) hk3⟩)
     | outgrown => exact hq.elim
    ·exact hk1.elim
   ·exact hk1.elim
  | exit id => obtain ⟨ℓ3, env3, S3, hI3, hk3⟩ := hq; exact hk3.elim
  | goto l => exact hq.elim
  | ret => obtain ⟨ℓ3, env3, S3, hI3, hk3⟩ := hq; exact hk3.elim
  | panic ch => obtain ⟨ℓ3, S3, v, hI3, hv, rfl, hk3⟩ := hq; exact hk3.elim
  | outgrown => exact hq.elim
end
end
end Go.Tr
