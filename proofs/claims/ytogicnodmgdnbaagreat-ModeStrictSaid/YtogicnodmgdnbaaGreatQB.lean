/- Merged texts: FwF FwG FwH FwI FwJ. One operation of the framework is sound (vcRun_sound). Condition: the state describes the world (Inv). One operation of the framework is sound (vcRun_sound), and so are a region's operations in the text's order (vcOps_sound). Condition: the state describes the world (Inv). A region's operations in the text's order, and code, are sound (vcOps_sound, vcC_sound); a contract out of a function's body (spec_of_body). Condition: the type table is the program's (TTOK). Rules for the uses of the framework: types, contracts at a call (Meets.pure, Meets.frame), indices, appends. Conditions stand in each rule. A call that is handed own blocks (Meets.frame): its contract speaks of these blocks alone; all else stays. Conditions: each block is handed in once; the call keeps their number and kinds. -/
import Derived.Test.YtogicnodmgdnbaaGreatQA
import Derived.Deep.LoopGhost
import Derived.LoopNIn
import Derived.Laws.BitsLemmas
/-! FwF -/
section
namespace Go.Tr
open Go
set_option linter.unusedSimpArgs false

def Holds (a : Act) (l : Atoms) : Prop := ∀ p ∈ l, a.tmps.getD p.1 undef = .bool p.2

def EnvOK (ℓ : List Base) (n : Nat) (env : Env) (a : Act) : Prop := ∀ t s, find env t = some s → s.wf n = true ∧ a.tmps.getD t undef = s.den ℓ

def GenOK (ℓ : List Base) (n : Nat) (gen : Gen) (a : Act) : Prop := ∀ t s tags, gfind gen t = some (s, tags) → (Holds a tags → s.wf n = true ∧ a.tmps.getD t undef = s.den ℓ) ∧ (¬ Holds a tags → a.tmps.getD t undef = undef)

theorem beqB_eq {a b : Bool} (h : beqB a b = true) : a = b := by cases a <;> cases b <;> simp_all [beqB]
theorem beqB_ne {a b : Bool} (h : beqB a b = false) : a = !b := by cases a <;> cases b <;> simp_all [beqB]

theorem memAtom_mem {g : Nat} {b : Bool} : ∀ {l : Atoms}, memAtom g b l = true → (g, b) ∈ l
  | [], h => by simp [memAtom] at h
  | (h', c) :: r, h => by
    simp only [memAtom] at h
    split at h
    · rename_i hb
      simp only [Bool.and_eq_true] at hb
      have h1 := Nat.eq_of_beq_eq_true hb.1
      have h2 := beqB_eq hb.2
      subst h1 h2
      simp
    · exact List.mem_cons_of_mem _ (memAtom_mem h)

theorem subAtoms_holds {a : Act} : ∀ {l l' : Atoms}, subAtoms l l' = true → Holds a l' → Holds a l
  | [], _, _, _ => by simp [Holds]
  | (g, b) :: r, l', h, hh => by
    simp only [subAtoms] at h
    split at h
    · rename_i hm
      have := hh _ (memAtom_mem hm)
      have ih := subAtoms_holds h hh
      intro p hp
      rcases List.mem_cons.1 hp with h1 | h1
      · subst h1; exact this
      · exact ih p h1
    · cases h

theorem Holds.append {a : Act} {l l' : Atoms} (h : Holds a l) (h' : Holds a l') : Holds a (l ++ l') := by
  intro p hp
  rcases List.mem_append.1 hp with h1 | h1
  · exact h p h1
  · exact h' p h1

theorem knownOf_mem {g : Nat} {b : Bool} : ∀ {l : Atoms}, knownOf l g = some b → (g, b) ∈ l
  | [], h => by simp [knownOf] at h
  | (h', c) :: r, h => by
    simp only [knownOf] at h
    split at h
    · rename_i hb
      have h1 := Nat.eq_of_beq_eq_true hb
      cases h
      subst h1
      simp
    · exact List.mem_cons_of_mem _ (knownOf_mem h)

theorem constO_spec (ℓ : List Base) (n : Nat) {v : Value} {s : SV} (h : constO v = some s) : s.wf n = true ∧ s.den ℓ = v := by
  cases v with
  | agg cs => simp only [constO, forceL_eq, Option.some.injEq] at h; subst h; exact ⟨by simp only [SV.wf, wfL_map_v], by simp only [SV.den, denL_map_v]⟩
  | _ => simp only [constO, Option.some.injEq] at h; subst h; exact ⟨rfl, rfl⟩

/-- What is handed through a function: the world and the blocks that it was called with; rx: in a round, the own block that is the loop's record. -/
structure Cx where
  J : Nat → Prop
  ℓ0 : List Base
  S0 : St
  w0 : World
  N : Nat
  rx : Option Nat
  base : List Deferred

/-- The loop whose round the code is in. -/
def Cx.ro (c : Cx) : Option Nat :=
  match c.rx with
  | none => none
  | some i => some (c.ℓ0.getD i default).block

def markD (r : Nat) : Deferred := { target := .collected r, args := #[] }

def marksOf : List Deferred → List Nat
  | [] => []
  | d :: ds => match d.target with
    | .collected r => r :: marksOf ds
    | _ => marksOf ds

/-- What is deferred but the marks. -/
def restOf : List Deferred → List Deferred
  | [] => []
  | d :: ds => match d.target with
    | .collected _ => restOf ds
    | _ => d :: restOf ds

/-- Nothing is deferred but what was before, and the marks of loops, whose blocks are empty. -/
structure Marks (w0 : World) (base ds : List Deferred) (w : World) : Prop where
  eq : restOf ds = base
  nodup : (marksOf ds).Nodup
  blk : ∀ r ∈ marksOf ds, w0.heap.size ≤ r ∧ w.heap[r]? = some (.deferred (some []))

/-- The blocks that may be used: those of the marks may not. -/
def Cx.Ja (c : Cx) (a : Act) : Nat → Prop := fun b => c.J b ∧ b ∉ marksOf a.defers

structure Inv (c : Cx) (ℓ : List Base) (kn : Atoms) (gen : Gen) (env : Env) (S : St) (a : Act) (w : World) : Prop where
  size : a.tmps.size = c.N
  defers : Marks c.w0 c.base a.defers w
  env : EnvOK ℓ S.own.length env a
  gen : GenOK ℓ S.own.length gen a
  kn : Holds a kn
  good : Good (c.Ja a) ℓ S w
  fresh0 : Fresh c.J c.w0
  pre : c.ℓ0 <+: ℓ
  ext : Ext (mutS c.ℓ0 c.S0) c.w0 w
  fresh : ∀ b ∈ mutS ℓ S, b ∈ mutS c.ℓ0 c.S0 ∨ c.w0.heap.size ≤ b

theorem Inv.freshJ {c : Cx} {ℓ : List Base} {kn : Atoms} {gen : Gen} {env : Env} {S : St} {a : Act} {w : World} (h : Inv c ℓ kn gen env S a w) : Fresh (c.Ja a) w :=
  fun b hb => ⟨h.fresh0 b (Nat.le_trans h.ext.size hb), fun hm => by have := lt_of_get (h.defers.blk b hm).2; omega⟩

section
variable {P : Program} {tt : Tab} {c : Cx} {ℓ : List Base} {kn al : Atoms} {gen : Gen} {env : Env} {S : St} {a : Act} {w : World}

theorem getter_sound (h : Inv c ℓ kn gen env S a w) (hal : Holds a al) {ex : Atoms} (hex : Holds a ex) {x : Operand} {s : SV} (hg : getter gen env al ex x = some s) : s.wf S.own.length = true ∧ a.eval x = s.den ℓ := by
  cases x with
  | tmp t =>
    simp only [getter] at hg
    split at hg
    · rename_i s' tags hf
      split at hg
      · rename_i hs
        cases hg
        have := h.gen t _ _ hf
        exact this.1 (subAtoms_holds hs (hex.append hal))
      · cases hg
    · exact h.env t s hg
  | const v =>
    simp only [getter] at hg
    have := constO_spec ℓ S.own.length hg
    exact ⟨this.1, this.2.symm⟩
  | global g =>
    simp only [getter, Option.some.injEq] at hg
    subst hg
    exact ⟨rfl, rfl⟩
  | func f =>
    simp only [getter, Option.some.injEq] at hg
    subst hg
    exact ⟨rfl, rfl⟩

theorem own_at {J : Nat → Prop} (h : Good J ℓ S w) {i : Nat} {k : Blk} (hk : S.own[i]? = some k) : ∃ b, ℓ[i]? = some b ∧ BlkOK (Jx J (mutS ℓ S)) ℓ w b k := by
  have hlt : i < ℓ.length := by
    rw [h.len]
    rcases Nat.lt_or_ge i S.own.length with h1 | h1
    · exact h1
    · rw [List.getElem?_eq_none h1] at hk; cases hk
  exact ⟨ℓ[i], List.getElem?_eq_getElem hlt, h.own i _ k (List.getElem?_eq_getElem hlt) hk⟩

theorem Good.cellsAt {J : Nat → Prop} (h : Good J ℓ S w) {i : Nat} {cs : List SV} (hk : cellsIn (nth S.own i) = some cs) :
    SV.wfL S.own.length cs = true ∧ ∃ b, ℓ[i]? = some b ∧ ∀ j v, (SV.denL ℓ cs)[j]? = some v → w.cell? ⟨b.block, b.off + j, none⟩ = some v := by
  cases hn : nth S.own i with
  | none => rw [hn] at hk; simp [cellsIn] at hk
  | some k =>
    rw [hn] at hk
    have hk' : S.own[i]? = some k := by rw [← nth_eq]; exact hn
    obtain ⟨b, hb, hok⟩ := own_at h hk'
    have := cells_of_ok (wf_of_mem h.wf hk') hok hk
    exact ⟨this.1, b, hb, this.2⟩

theorem Inv.pctx (hT : TTOK P tt) (h : Inv c ℓ kn gen env S a w) (hal : Holds a al) : PCtx P tt (Jx (c.Ja a) (mutS ℓ S)) ℓ S.own S.own.length a.eval kn (getter gen env al) w where
  hT := hT
  const := fun _ => rfl
  get0 := fun x s hs => getter_sound h hal (by simp [Holds]) hs
  get1 := fun g b x s hs hb => getter_sound h hal (by intro p hp; simp at hp; subst hp; exact hb) hs
  hkn := fun g b hk => h.kn _ (knownOf_mem hk)
  own := fun i cs hk => h.good.cellsAt hk

/-- What is known behind an operation. -/
structure Stepped (J : Nat → Prop) (ℓ : List Base) (S : St) (w : World) (ℓ' : List Base) (S' : St) (w' : World) : Prop where
  pre : ℓ <+: ℓ'
  ext : Ext (mutS ℓ S) w w'
  good : Good J ℓ' S' w'
  fresh : ∀ b ∈ mutS ℓ' S', b ∈ mutS ℓ S ∨ w.heap.size ≤ b

theorem Stepped.refl {J : Nat → Prop} (h : Good J ℓ S w) : Stepped J ℓ S w ℓ S w := ⟨List.prefix_refl _, Ext.refl _ _, h, fun _ hb => .inl hb⟩

theorem args_eq {ρ : Operand → Value} {args : Array Operand} {l : List SV} (h : args.toList.map ρ = SV.denL ℓ l) : args.map ρ = (SV.denL ℓ l).toArray := by
  rw [← Array.toList_inj, Array.toList_map, h]

theorem getParts_sound {C : PCtx P tt (Jx (c.Ja a) (mutS ℓ S)) ℓ S.own S.own.length a.eval kn (getter gen env al) w} : ∀ (xs : List (Nat × Operand)) (l : List (Nat × SV)), getParts (getter gen env al) xs = some l → xs.map (fun (i, x) => (i, a.eval x)) = denParts ℓ l
  | [], l, h => by simp only [getParts, Option.some.injEq] at h; subst h; rfl
  | (i, x) :: xs, l, h => by
    simp only [getParts] at h
    split at h
    · rename_i s hs
      split at h
      · rename_i ss hss
        cases h
        have h1 := C.get0 _ _ hs
        have h2 := getParts_sound (C := C) xs ss hss
        simp only [List.map_cons, denParts, h1.2, h2]
      · cases h
    · cases h

theorem mapOpt_sound {C : PCtx P tt (Jx (c.Ja a) (mutS ℓ S)) ℓ S.own S.own.length a.eval kn (getter gen env al) w} {x : Option Operand} {s : Option SV} (h : mapOpt (getter gen env al []) x = some s) : x.map a.eval = denO ℓ s := by
  cases x with
  | none => simp only [mapOpt, Option.some.injEq] at h; subst h; rfl
  | some x =>
    simp only [mapOpt] at h
    split at h
    · rename_i b hb
      cases h
      simp [denO, (C.get0 _ _ hb).2]
    · cases h

/-- How an operation's answer is met. -/
def Met (c : Cx) (ℓ : List Base) (S : St) (a : Act) (w : World) (o : Oper) (K : SV → St → Prop) (next : Act → World → Prop) : Prop :=
  ∀ r ℓ' S' w', Stepped (c.Ja a) ℓ S w ℓ' S' w' → r.wf S'.own.length = true → K r S' → next (a.put o.dst (r.den ℓ')) w'
def MetP (c : Cx) (ℓ : List Base) (S : St) (a : Act) (w : World) (Kp : SV → St → Prop) (Q : Exit → Act → World → Prop) : Prop :=
  ∀ v ℓ' S' w', Stepped (c.Ja a) ℓ S w ℓ' S' w' → v.wf S'.own.length = true → Kp v S' → Q (.panic [{ v := v.den ℓ', recovered := false }]) a w'

/-- An operation's answer, met. -/
abbrev upOp (ro : Option Nat) (P : Program) (o : Oper) (a : Act) (w : World) (next : Act → World → Prop) (Q : Exit → Act → World → Prop) : Prop := o.uponIn (fen ro) 0 P a next Q ((execOp a.eval o).run P w)

theorem up_wp {ro : Option Nat} {o : Oper} {next : Act → World → Prop} {Q : Exit → Act → World → Prop} (hnd : ∀ c, o.op ≠ .defer c) (h : upOp ro P o a w next Q) : o.wpIn (fen ro) 0 P a w next Q :=
  ⟨fun _ _ => trivial, by rw [Oper.semAt_eq _ _ _ hnd]; exact h⟩

theorem wp_of_value {ro : Option Nat} {o : Oper} {next : Act → World → Prop} {Q : Exit → Act → World → Prop} {v : Value} {w' : World} (h : (execOp a.eval o).run P w = .ok (.value v) w') (hn : next (a.put o.dst v) w') : upOp ro P o a w next Q := by
  unfold upOp; rw [h]; exact hn

theorem wp_of_sem {ro : Option Nat} {o : Oper} {K : SV → St → Prop} {next : Act → World → Prop} {Q : Exit → Act → World → Prop} {m : List Base → Sem Value} (hI : Inv c ℓ kn gen env S a w) (he : execOp a.eval o = (do pure (.value (← m ℓ)) : Sem Next)) (hK : Met c ℓ S a w o K next) (h : AtSem P m S K) : upOp ro P o a w next Q := by
  obtain ⟨r, ℓ', S', w', hr, hwf, hp, hx, hg, hf, hk⟩ := h.sem (c.Ja a) ℓ w hI.good hI.freshJ
  refine wp_of_value (v := r.den ℓ') (w' := w') ?_ (hK r ℓ' S' w' ⟨hp, hx, hg, hf⟩ hwf hk)
  rw [he, Sem.run_bind, hr]; rfl

theorem wp_of_pure {ro : Option Nat} {o : Oper} {K : SV → St → Prop} {next : Act → World → Prop} {Q : Exit → Act → World → Prop} {m : List Base → Sem Value} (hI : Inv c ℓ kn gen env S a w) (he : execOp a.eval o = (do pure (.value (← m ℓ)) : Sem Next)) (hK : Met c ℓ S a w o K next) (h : AtPure P m S K) : upOp ro P o a w next Q := by
  obtain ⟨r, ℓ', S', hr, hwf, hp, hg, hf, _, hk⟩ := h.sem (c.Ja a) ℓ w hI.good hI.freshJ
  refine wp_of_value (v := r.den ℓ') (w' := w) ?_ (hK r ℓ' S' w ⟨hp, Ext.refl _ _, hg, fun b hb => .inl (hf b hb)⟩ hwf hk)
  rw [he, Sem.run_bind, hr]; rfl

theorem wp_of_semU {ro : Option Nat} {o : Oper} {K : SV → St → Prop} {next : Act → World → Prop} {Q : Exit → Act → World → Prop} {m : List Base → Sem Unit} (hI : Inv c ℓ kn gen env S a w) (he : execOp a.eval o = (do m ℓ; pure .skip : Sem Next)) (hK : Met c ℓ S a w o K next) (h : AtSem P (fun ℓ => do m ℓ; pure undef) S K) : upOp ro P o a w next Q := by
  obtain ⟨r, ℓ', S', w', hr, hwf, hp, hx, hg, hf, hk⟩ := h.sem (c.Ja a) ℓ w hI.good hI.freshJ
  simp only [Sem.run_bind, Sem.run_pure] at hr
  unfold upOp
  rw [he, Sem.run_bind]
  cases hm : (m ℓ).run P w with
  | ok u w1 =>
    rw [hm] at hr
    simp only [Result.andThen_ok, Result.ok.injEq] at hr
    obtain ⟨h1, h2⟩ := hr
    subst h2
    simp only [Result.andThen_ok, Sem.run_pure, Oper.uponIn_skip]
    rw [h1]
    exact hK r ℓ' S' w1 ⟨hp, hx, hg, hf⟩ hwf hk
  | halt x w1 => rw [hm] at hr; simp at hr

theorem wp_of_spec {ro : Option Nat} {o : Oper} {K Kp : SV → St → Prop} {next : Act → World → Prop} {Q : Exit → Act → World → Prop} {cl : Cal} {args : List SV} (hI : Inv c ℓ kn gen env S a w) (he : execOp a.eval o = cl.sem ℓ args) (hK : Met c ℓ S a w o K next) (hKp : MetP c ℓ S a w Kp Q)
    (h : Meets P cl args S (fun o S' => match o with
      | .ret r => K r S'
      | .pan v => Kp v S')) : upOp ro P o a w next Q := by
  obtain ⟨nx, hr, hc⟩ := h (c.Ja a) ℓ w hI.good hI.freshJ
  unfold upOp
  rw [he, hr]
  have fin : ∀ e w', CallPost (c.Ja a) ℓ S w (fun o S' => match o with
      | .ret r => K r S'
      | .pan v => Kp v S') e w' → (match e with
      | .returned v => next (a.put o.dst v) w'
      | .panicked chain => Q (.panic chain) a w'
      | .outgrown => LetsOut Q) := by
    rintro e w' ⟨ℓ', out, S', heq, hwf, hp, hx, hg, hf, hk⟩
    subst heq
    cases out with
    | ret r => exact hK r ℓ' S' w' ⟨hp, hx, hg, hf⟩ hwf hk
    | pan v => exact hKp v ℓ' S' w' ⟨hp, hx, hg, hf⟩ hwf hk
  cases nx with
  | enter f ag =>
    rw [Oper.uponIn_enter]
    refine ⟨fun h => by simp [fen] at h, CallsIn.mono (R := _) hc ?_⟩
    intro e w' he
    have := fin e w' he
    cases e <;> exact this
  | round l f tmps assign body =>
    rw [Oper.uponIn_round]
    refine ⟨fun h => by simp [fen] at h, RoundIn.mono (R := _) hc ?_⟩
    intro e w' he
    have := fin e w' he
    cases e <;> exact this
  | _ => exact hc.elim

theorem alloc_stepped (hI : Inv c ℓ kn gen env S a w) (T : TypeId) (cs : List SV) (hcs : SV.wfL S.own.length cs = true) :
    Stepped (c.Ja a) ℓ S w (ℓ ++ [⟨w.heap.size, 0⟩]) ⟨S.own ++ [.cells T cs], S.accs, S.reps⟩ (w.alloc (.cells (SV.denL ℓ cs).toArray T (0, 0))) := by
  have hnew : (w.alloc (.cells (SV.denL ℓ cs).toArray T (0, 0))).heap[w.heap.size]? = some (.cells (SV.denL ℓ cs).toArray T (0, 0)) := by
    show (w.heap.push _)[w.heap.size]? = _
    simp
  have hold : ∀ x, x < w.heap.size → (w.alloc (.cells (SV.denL ℓ cs).toArray T (0, 0))).heap[x]? = w.heap[x]? := by
    intro x hx
    show (w.heap.push _)[x]? = _
    rw [Array.getElem?_push, if_neg (by omega)]
  have hm := mutS_push hI.good.len (S := S) ⟨w.heap.size, 0⟩ (.cells T cs)
  refine ⟨List.prefix_append _ _, ⟨rfl, rfl, by simp, fun x hx _ => hold x hx⟩, ?_, ?_⟩
  · refine hI.good.push ⟨w.heap.size, 0⟩ (.cells T cs) hcs (fun _ => ⟨Nat.le_refl _, by simp, hI.freshJ _ (Nat.le_refl _)⟩) (by simp) hold ⟨rfl, hnew⟩
  · intro x hx
    rcases (hm x).1 hx with h1 | ⟨_, h1⟩
    · exact .inl h1
    · subst h1; exact .inr (Nat.le_refl _)

theorem loc_wf (n : Nat) : (SV.loc n 0).wf (n + 1) = true := by simp [SV.wf, blt_true]

theorem getD_new (ℓ : List Base) (b : Base) : (ℓ ++ [b]).getD ℓ.length default = b := by simp [List.getD]

theorem wf_cellsOf {n : Nat} {s : SV} (h : s.wf n = true) : SV.wfL n (cellsOf s) = true := by
  cases s <;> simp_all [cellsOf, SV.wfL, SV.wf]

theorem allOne_spec : ∀ {l : List SV}, allOne l = true → ∀ v ∈ SV.denL ℓ l, v.oneCell' = true
  | [], _, v, hv => by simp [SV.denL] at hv
  | s :: r, h, v, hv => by
    simp only [allOne] at h
    split at h
    · rename_i h1
      simp only [SV.denL, List.mem_cons] at hv
      rcases hv with h2 | h2
      · subst h2
        cases s <;> simp_all [oneCell, SV.den, Value.oneCell']
      · exact allOne_spec h v h2
    · cases h

theorem zeros_run {t : TypeId} {k : TK} (hT : TTOK P tt) (ht : tt t = some k) : ∃ z, (∀ w, (zeroValue t).run P w = .ok z w) ∧ z.cells = k.zeros.toArray := by
  have := hT t k ht
  cases k with
  | cell z => exact ⟨z, this.zero, this.cells⟩
  | slice e n => exact ⟨_, this.1.zero, rfl⟩
  | str => exact ⟨_, this.1.zero, rfl⟩
  | map k e => exact ⟨_, this.1.zero, rfl⟩
  | struct offs szs zs => exact ⟨_, this.2.2.1, rfl⟩
  | arr n e k zs => exact ⟨_, this.2.2.1, rfl⟩

theorem size_run {t : TypeId} {k : TK} (hT : TTOK P tt) (ht : tt t = some k) : ∀ w, (sizeOf t).run P w = .ok k.zeros.length w := by
  have := hT t k ht
  cases k with
  | cell z => exact this.size
  | slice e n => exact this.1.size
  | str => exact this.1.size
  | map k e => exact this.1.size
  | struct offs szs zs => exact this.2.1
  | arr n e k zs => exact this.2.1

theorem run_execOp_alloc {o : Oper} {t : TypeId} (ho : o.op = .alloc t) {z : Value} (hz : (zeroValue t).run P w = .ok z w) : (execOp a.eval o).run P w = .ok (.value (.pointer (some ⟨w.heap.size, 0, none⟩))) (w.alloc (.cells z.cells t)) := by
  unfold execOp
  rw [ho]
  simp [Instr.alloc, hz, newVar, newRow]

theorem run_execOp_box {o : Oper} {t : TypeId} {x : Operand} (ho : o.op = .box t x) : (execOp a.eval o).run P w = .ok (.value (.pointer (some ⟨w.heap.size, 0, none⟩))) (w.alloc (.cells (a.eval x).cells t)) := by
  unfold execOp
  rw [ho]
  simp [Instr.box, newVar, newRow]

end
end Go.Tr
end

/-! FwG -/
section
namespace Go.Tr
open Go
set_option linter.unusedSimpArgs false

section
variable {P : Program} {tt : Tab} {c : Cx} {ℓ : List Base} {kn al : Atoms} {gen : Gen} {env : Env} {S : St} {a : Act} {w : World}

set_option maxHeartbeats 1000000 in
theorem vcRun_sound {ro : Option Nat} {o : Oper} {K Kp : SV → St → Prop} {next : Act → World → Prop} {Q : Exit → Act → World → Prop} (hT : TTOK P tt) (hI : Inv c ℓ kn gen env S a w) (hal : Holds a al) (hK : Met c ℓ S a w o K next) (hKp : MetP c ℓ S a w Kp Q)
    (h : vcRun P tt kn (getter gen env al) o S K Kp) : o.wpIn (fen ro) 0 P a w next Q := by
  refine up_wp (fun cc hcc => ?_) ?_
  · unfold vcRun at h
    simp only [hcc, stepPure] at h
  have C := hI.pctx (P := P) (tt := tt) (al := al) hT hal
  unfold vcRun at h
  split at h
  · rename_i s hs
    have := stepPure_sound C o hs
    exact wp_of_value this.2 (hK s ℓ S w (Stepped.refl hI.good) this.1 h)
  · split at h
    · rename_i t x ho
      split at h
      · rename_i s hs
        split at h
        · rename_i hp
          rw [forceL_eq, putOwn_eq] at h
          have hx := C.get0 _ _ hs
          have hst := alloc_stepped hI t (cellsOf s) (wf_cellsOf hx.1)
          have hr := run_execOp_box (P := P) (a := a) (w := w) ho
          rw [hx.2, den_cells_of_plain ℓ hp] at hr
          refine wp_of_value hr ?_
          have := hK (.loc S.own.length 0) _ _ _ hst (by simpa using loc_wf _) h
          simp only [SV.den] at this
          rw [← hI.good.len, getD_new] at this
          exact this
        · exact h.elim
      · exact h.elim
    · rename_i t ho
      split at h
      · rename_i k hk
        rw [forceL_eq, forceL_eq, putOwn_eq] at h
        obtain ⟨z, hz, hzc⟩ := zeros_run hT hk
        have hst := alloc_stepped hI t (k.zeros.map SV.v) (wfL_map_v _ _)
        rw [denL_map_v] at hst
        have hr := run_execOp_alloc (P := P) (a := a) (w := w) ho (hz w)
        rw [hzc] at hr
        refine wp_of_value hr ?_
        have := hK (.loc S.own.length 0) _ _ _ hst (by simpa using loc_wf _) h
        simp only [SV.den] at this
        rw [← hI.good.len, getD_new] at this
        exact this
      · exact h.elim
    · rename_i t ad x ho
      split at h
      · rename_i i off s hadr hs
        split at h
        · rename_i T cs k hk ht
          split at h
          · rename_i hb
            rw [forceL_eq, forceL_eq, putOwn_eq] at h
            simp only [Bool.and_eq_true] at hb
            obtain ⟨⟨⟨hp, h1⟩, h2⟩, h3⟩ := hb
            have h2 := Nat.eq_of_beq_eq_true h2
            have h3 := Nat.le_of_ble_eq_true h3
            have hx := C.get0 _ _ hs
            have hy := C.get0 _ _ hadr
            have hk' : S.own[i]? = some (.cells T cs) := by rw [← nth_eq]; exact hk
            have hwk := wf_of_mem hI.good.wf hk'
            obtain ⟨b, hbl, hok⟩ := own_at hI.good hk'
            simp only [BlkOK] at hok
            have hlen : (SV.denL ℓ cs).toArray.size = cs.length := by simp [SV.denL_length]
            have hst := run_storeCells_at P b.block off T (SV.denL ℓ (cellsOf s)) 0 (SV.denL ℓ cs).toArray w hok.2 (by rw [hlen, SV.denL_length]; omega) (allOne_spec h1)
            have hrow : (w.setRow b.block (SV.denL ℓ (setRange cs off (cellsOf s))).toArray).heap[b.block]? = some (.cells (SV.denL ℓ (setRange cs off (cellsOf s))).toArray T (0, 0)) := setRow_heap w _ _ _ _ _ hok.2
            have hsz : (w.setRow b.block (SV.denL ℓ (setRange cs off (cellsOf s))).toArray).heap.size = w.heap.size := by simp [World.setRow]
            have hoth : ∀ y, y ≠ b.block → (w.setRow b.block (SV.denL ℓ (setRange cs off (cellsOf s))).toArray).heap[y]? = w.heap[y]? := fun y hy => setRow_other w _ _ _ hy
            have hwf' : SV.wfL S.own.length (setRange cs off (cellsOf s)) = true := wfL_setRange hwk (wf_cellsOf hx.1)
            have hgood := hI.good.update (k' := .cells T (setRange cs off (cellsOf s))) hk' hbl rfl rfl hwf' (Nat.le_of_eq hsz.symm) (fun y _ hy => hoth y hy) ⟨hok.1, hrow⟩
            have hbm : b.block ∈ mutS ℓ S := by simp only [mutS]; exact List.mem_append.2 (.inl (mem_mutL.2 ⟨i, b, _, hbl, hk', rfl, rfl⟩))
            have hmut : mutS ℓ ⟨S.own.set i (.cells T (setRange cs off (cellsOf s))), S.accs, S.reps⟩ = mutS ℓ S := by
              simp only [mutS]; rw [mutL_set (k' := Blk.cells T (setRange cs off (cellsOf s))) hk' rfl]
            have hstep : Stepped (c.Ja a) ℓ S w ℓ ⟨S.own.set i (.cells T (setRange cs off (cellsOf s))), S.accs, S.reps⟩ (w.setRow b.block (SV.denL ℓ (setRange cs off (cellsOf s))).toArray) :=
              ⟨List.prefix_refl _, ⟨rfl, rfl, Nat.le_of_eq hsz.symm, fun y _ hy => hoth y (fun e => hy (e ▸ hbm))⟩, hgood, fun y hy => .inl (by rw [hmut] at hy; exact hy)⟩
            have hfin := hK undefS _ _ _ hstep (by rfl) h
            unfold upOp
            have hrun : (execOp a.eval o).run P w = .ok .skip (w.setRow b.block (SV.denL ℓ (setRange cs off (cellsOf s))).toArray) := by
              unfold execOp
              rw [ho]
              have hd : ℓ.getD i default = b := by simp [List.getD, hbl]
              have hcells : ((a.eval x).cells.size ≠ k.zeros.length) = False := by
                rw [hx.2, den_cells_of_plain ℓ hp]; simp [SV.denL_length, h2]
              have hst' : (storeCells ⟨b.block, off, none⟩ (a.eval x).cells.toList).run P w = .ok () (w.setRow b.block (SV.denL ℓ (setRange cs off (cellsOf s))).toArray) := by
                rw [hx.2, den_cells_of_plain ℓ hp, hst, setRange_denL]
                simp [setRange, List.append_assoc]
              simp only [Instr.storeAt, hy.2, SV.den, hd, hok.1, Nat.zero_add, Instr.sureAddr, pure_bind, storeVar, Sem.run_bind, size_run hT ht, Result.andThen_ok, hcells, if_false, hst', Sem.run_pure]
            rw [hrun]
            exact hfin
          · exact h.elim
        · exact h.elim
      · rename_i sx sy _ hx hy
        have hx' := C.get0 _ _ hx
        have hy' := C.get0 _ _ hy
        refine wp_of_semU hI ?_ hK h
        unfold execOp; rw [ho]; simp only [hx'.2, hy'.2]
      · exact h.elim
    · rename_i cl ho
      split at h
      · rename_i f hc
        split at h
        · rename_i F args hF hargs
          have hF' := C.get0 _ _ hF
          have ha' := getAll_sound C _ _ hargs
          refine wp_of_spec (cl := .val F) (args := args) hI ?_ hK hKp h
          unfold execOp
          rw [ho]
          simp only [resolve, hc, Cal.sem, hF'.2, args_eq ha'.2]
        · exact h.elim
      · rename_i r m hc
        split at h
        · rename_i F args hF hargs
          have hF' := C.get0 _ _ hF
          have ha' := getAll_sound C _ _ hargs
          refine wp_of_spec (cl := .meth F m) (args := args) hI ?_ hK hKp h
          unfold execOp
          rw [ho]
          simp only [resolve, hc, Cal.sem, hF'.2, args_eq ha'.2, pure_bind]
        · exact h.elim
      · rename_i hc
        split at h
        · rename_i args hargs
          have ha' := getAll_sound C _ _ hargs
          refine wp_of_sem hI ?_ hK h
          unfold execOp
          rw [ho]
          simp only [resolve, hc, pure_bind, invoke, builtin, args_eq ha'.2]
        · exact h.elim
      · rename_i hc
        split at h
        · rename_i args hargs
          have ha' := getAll_sound C _ _ hargs
          refine wp_of_pure hI ?_ hK h
          unfold execOp
          rw [ho]
          simp only [resolve, hc, pure_bind, invoke, builtin, args_eq ha'.2]
        · exact h.elim
      · rename_i hc
        split at h
        · rename_i args hargs
          have ha' := getAll_sound C _ _ hargs
          refine wp_of_pure hI ?_ hK h
          unfold execOp
          rw [ho]
          simp only [resolve, hc, pure_bind, invoke, builtin, args_eq ha'.2]
        · exact h.elim
      · rename_i hc
        split at h
        · rename_i args hargs
          have ha' := getAll_sound C _ _ hargs
          refine wp_of_sem hI ?_ hK h
          unfold execOp
          rw [ho]
          simp only [resolve, hc, pure_bind, invoke, builtin, args_eq ha'.2]
        · exact h.elim
      · rename_i hc
        split at h
        · rename_i args hargs
          have ha' := getAll_sound C _ _ hargs
          refine wp_of_pure hI ?_ hK h
          unfold execOp
          rw [ho]
          simp only [resolve, hc, pure_bind, invoke, builtin, args_eq ha'.2]
        · exact h.elim
      · rename_i hc
        split at h
        · rename_i args hargs
          have ha' := getAll_sound C _ _ hargs
          refine wp_of_sem hI ?_ hK h
          unfold execOp
          rw [ho]
          simp only [resolve, hc, pure_bind, invoke, builtin, args_eq ha'.2]
        · exact h.elim
      · rename_i hc
        split at h
        · rename_i args hargs
          have ha' := getAll_sound C _ _ hargs
          refine wp_of_sem hI ?_ hK h
          unfold execOp
          rw [ho]
          simp only [resolve, hc, pure_bind, invoke, builtin, args_eq ha'.2]
        · exact h.elim
      · exact h.elim
    · rename_i t x i ho
      split at h
      · rename_i sx sy hx hy
        have hx' := C.get0 _ _ hx
        have hy' := C.get0 _ _ hy
        refine wp_of_pure hI ?_ hK h
        unfold execOp; rw [ho]; simp only [hx'.2, hy'.2]
      · exact h.elim
    · rename_i t x i ho
      split at h
      · rename_i sx sy hx hy
        have hx' := C.get0 _ _ hx
        have hy' := C.get0 _ _ hy
        refine wp_of_pure hI ?_ hK h
        unfold execOp; rw [ho]; simp only [hx'.2, hy'.2]
      · exact h.elim
    · rename_i t x f ho
      split at h
      · rename_i sx hx
        have hx' := C.get0 _ _ hx
        refine wp_of_pure hI ?_ hK h
        unfold execOp; rw [ho]; simp only [hx'.2]
      · exact h.elim
    · rename_i t x ho
      split at h
      · rename_i sx hx
        have hx' := C.get0 _ _ hx
        refine wp_of_sem hI ?_ hK h
        unfold execOp; rw [ho]; simp only [hx'.2]
      · exact h.elim
    · rename_i t x lo hi mx ho
      split at h
      · rename_i sx sl sh sm hx hl hh hm
        have hx' := C.get0 _ _ hx
        have hl' := mapOpt_sound (C := C) hl
        have hh' := mapOpt_sound (C := C) hh
        have hm' := mapOpt_sound (C := C) hm
        refine wp_of_pure hI ?_ hK h
        unfold execOp; rw [ho]; simp only [hx'.2, hl', hh', hm']
      · exact h.elim
    · rename_i t len parts ho
      split at h
      · rename_i l hl
        have hl' := getParts_sound (C := C) _ _ hl
        have hp : (parts.map fun (i, x) => (i, a.eval x)) = (denParts ℓ l).toArray := by
          rw [← Array.toList_inj, Array.toList_map, hl']
        refine wp_of_sem hI ?_ hK h
        unfold execOp; rw [ho]; simp only [hp]
      · exact h.elim
    · rename_i t l c ho
      split at h
      · rename_i sx sy hx hy
        have hx' := C.get0 _ _ hx
        have hy' := C.get0 _ _ hy
        refine wp_of_sem hI ?_ hK h
        unfold execOp; rw [ho]; simp only [hx'.2, hy'.2]
      · exact h.elim
    · rename_i t r ho
      split at h
      · rename_i sr hr
        have hr' := mapOpt_sound (C := C) hr
        refine wp_of_sem hI ?_ hK h
        unfold execOp; rw [ho]; simp only [hr']
      · exact h.elim
    · rename_i t m k x ho
      split at h
      · rename_i sx sy sz hx hy hz
        have hx' := C.get0 _ _ hx
        have hy' := C.get0 _ _ hy
        have hz' := C.get0 _ _ hz
        refine wp_of_semU hI ?_ hK h
        unfold execOp; rw [ho]; simp only [hx'.2, hy'.2, hz'.2]
      · exact h.elim
    · rename_i t m k x ho
      split at h
      · rename_i sx sy sz hx hy hz
        have hx' := C.get0 _ _ hx
        have hy' := C.get0 _ _ hy
        have hz' := C.get0 _ _ hz
        refine wp_of_semU hI ?_ hK h
        unfold execOp; rw [ho]; simp only [hx'.2, hy'.2, hz'.2]
      · exact h.elim
    · rename_i t x ix ok ho
      split at h
      · rename_i sx sy hx hy
        have hx' := C.get0 _ _ hx
        have hy' := C.get0 _ _ hy
        refine wp_of_sem hI ?_ hK h
        unfold execOp; rw [ho]; simp only [hx'.2, hy'.2]
      · exact h.elim
    · rename_i t m k ho
      split at h
      · rename_i sx sy hx hy
        have hx' := C.get0 _ _ hx
        have hy' := C.get0 _ _ hy
        refine wp_of_sem hI ?_ hK h
        unfold execOp; rw [ho]; simp only [hx'.2, hy'.2]
      · exact h.elim
    · rename_i t m k x ho
      split at h
      · rename_i sx sy sz hx hy hz
        have hx' := C.get0 _ _ hx
        have hy' := C.get0 _ _ hy
        have hz' := C.get0 _ _ hz
        refine wp_of_semU hI ?_ hK h
        unfold execOp; rw [ho]; simp only [hx'.2, hy'.2, hz'.2]
      · exact h.elim
    · rename_i t x ho
      split at h
      · rename_i sx hx
        have hx' := C.get0 _ _ hx
        refine wp_of_sem hI ?_ hK h
        unfold execOp; rw [ho]; simp only [hx'.2]
      · exact h.elim
    · rename_i it isStr ho
      split at h
      · rename_i sx hx
        have hx' := C.get0 _ _ hx
        refine wp_of_sem hI ?_ hK h
        unfold execOp; rw [ho]; simp only [hx'.2]
      · exact h.elim
    · rename_i it ho
      split at h
      · rename_i sx hx
        have hx' := C.get0 _ _ hx
        refine wp_of_sem hI ?_ hK h
        unfold execOp; rw [ho]; simp only [hx'.2]
      · exact h.elim
    · rename_i op t x y ty ho
      split at h
      · rename_i sx sy hx hy
        have hx' := C.get0 _ _ hx
        have hy' := C.get0 _ _ hy
        refine wp_of_pure hI ?_ hK h
        unfold execOp; rw [ho]; simp only [hx'.2, hy'.2]
      · exact h.elim
    · rename_i op t x ho
      split at h
      · rename_i sx hx
        have hx' := C.get0 _ _ hx
        refine wp_of_pure hI ?_ hK h
        unfold execOp; rw [ho]; simp only [hx'.2]
      · exact h.elim
    · rename_i src dst x ho
      split at h
      · rename_i sx hx
        have hx' := C.get0 _ _ hx
        refine wp_of_sem hI ?_ hK h
        unfold execOp; rw [ho]; simp only [hx'.2]
      · exact h.elim
    · rename_i t x ho
      split at h
      · rename_i sx hx
        have hx' := C.get0 _ _ hx
        refine wp_of_pure hI ?_ hK h
        unfold execOp; rw [ho]; simp only [hx'.2]
      · exact h.elim
    · rename_i x t ag ok ho
      split at h
      · rename_i sx hx
        have hx' := C.get0 _ _ hx
        refine wp_of_pure hI ?_ hK h
        unfold execOp; rw [ho]; simp only [hx'.2]
      · exact h.elim
    · rename_i t parts ho
      split at h
      · rename_i l hl
        have hl' := getParts_sound (C := C) _ _ hl
        have hp : (parts.map fun (i, x) => (i, a.eval x)) = (denParts ℓ l).toArray := by
          rw [← Array.toList_inj, Array.toList_map, hl']
        refine wp_of_pure hI ?_ hK h
        unfold execOp; rw [ho]; simp only [hp]
      · exact h.elim
    · rename_i x ho
      split at h
      · rename_i t s hx
        have hx' := C.get0 _ _ hx
        unfold upOp
        have hr : (execOp a.eval o).run P w = .halt (.panic ((SV.ifc t s).den ℓ)) w := by
          unfold execOp; rw [ho]; simp [hx'.2, SV.den, Instr.panic]
        rw [hr]
        exact hKp (.ifc t s) ℓ S w (Stepped.refl hI.good) hx'.1 h
      · exact h.elim
    · exact h.elim

end
end Go.Tr
end

/-! FwH -/
section
namespace Go.Tr
open Go
set_option linter.unusedSimpArgs false

section
variable {P : Program} {tt : Tab} {c : Cx} {ℓ : List Base} {kn al : Atoms} {gen : Gen} {env : Env} {S : St} {a : Act} {w : World}

theorem put_get_self {a : Act} {d : Nat} {v : Value} (h : d < a.tmps.size) : (a.put (some d) v).tmps.getD d undef = v := by
  simp [Act.put, Array.getD, h]
theorem put_get_other {a : Act} {d t : Nat} {v : Value} (h : t ≠ d) : (a.put (some d) v).tmps.getD t undef = a.tmps.getD t undef := by
  simp only [Act.put, Array.getD_eq_getD_getElem?]
  rw [Array.getElem?_setIfInBounds_ne (Ne.symm h)]

theorem freshG_spec {d : Nat} : ∀ {gen : Gen}, freshG d gen = true → ∀ t s tags, gfind gen t = some (s, tags) → t ≠ d ∧ ∀ p ∈ tags, p.1 ≠ d
  | [], _, t, s, tags, h => by simp [gfind] at h
  | (n, s0, tags0) :: r, hf, t, s, tags, h => by
    simp only [freshG] at hf
    split at hf
    · cases hf
    · rename_i hb
      simp only [Bool.or_eq_false_iff] at hb
      simp only [gfind] at h
      split at h
      · rename_i hn
        have hn := Nat.eq_of_beq_eq_true hn
        cases h
        subst hn
        refine ⟨fun e => ?_, fun p hp e => ?_⟩
        · subst e; simp at hb
        · have := hb.2
          rw [List.any_eq_false] at this
          have := this p hp
          subst e
          simp at this
      · exact freshG_spec hf t s tags h

theorem freshK_spec {d : Nat} : ∀ {kn : Atoms}, freshK d kn = true → ∀ p ∈ kn, p.1 ≠ d
  | [], _, p, hp => by simp at hp
  | (n, b) :: r, hf, p, hp => by
    simp only [freshK] at hf
    split at hf
    · cases hf
    · rename_i hb
      rcases List.mem_cons.1 hp with h1 | h1
      · subst h1; intro e; subst e; simp at hb
      · exact freshK_spec hf p h1

theorem holds_put {a : Act} {d : Nat} {v : Value} {l : Atoms} (h : ∀ p ∈ l, p.1 ≠ d) : Holds (a.put (some d) v) l ↔ Holds a l := by
  constructor
  · intro hh p hp; have := hh p hp; rwa [put_get_other (h p hp)] at this
  · intro hh p hp; rw [put_get_other (h p hp)]; exact hh p hp

theorem put_size (a : Act) (d : Option Nat) (v : Value) : (a.put d v).tmps.size = a.tmps.size := by cases d <;> simp [Act.put]
theorem put_defers (a : Act) (d : Option Nat) (v : Value) : (a.put d v).defers = a.defers := by cases d <;> simp [Act.put]

theorem Ja_put (a : Act) (d : Option Nat) (v : Value) : c.Ja (a.put d v) = c.Ja a := by unfold Cx.Ja; rw [put_defers]

theorem EnvOK.grow {n n' : Nat} {ℓ' : List Base} (h : EnvOK ℓ n env a) (hn : n ≤ n') (hℓ : ∀ i, i < n → ℓ'.getD i default = ℓ.getD i default) : EnvOK ℓ' n' env a := fun t s hs => by
  have := h t s hs
  exact ⟨SV.wf_mono hn s this.1, by rw [SV.den_congr hℓ s this.1]; exact this.2⟩
theorem GenOK.grow {n n' : Nat} {ℓ' : List Base} (h : GenOK ℓ n gen a) (hn : n ≤ n') (hℓ : ∀ i, i < n → ℓ'.getD i default = ℓ.getD i default) : GenOK ℓ' n' gen a := fun t s tags hs => by
  have := h t s tags hs
  exact ⟨fun hh => ⟨SV.wf_mono hn s (this.1 hh).1, by rw [SV.den_congr hℓ s (this.1 hh).1]; exact (this.1 hh).2⟩, this.2⟩

theorem Stepped.own_le {J : Nat → Prop} {ℓ' : List Base} {S' : St} {w' : World} (h : Stepped J ℓ S w ℓ' S' w') (hl : ℓ.length = S.own.length) : S.own.length ≤ S'.own.length := by
  rw [← hl, ← h.good.len]; exact h.pre.length_le

theorem Marks.ext {w0 : World} {base ds : List Deferred} {w w' : World} {m : List Nat} (h : Marks w0 base ds w) (hx : Ext m w w') (hm : ∀ r ∈ marksOf ds, r ∉ m) : Marks w0 base ds w' :=
  ⟨h.eq, h.nodup, fun r hr => ⟨(h.blk r hr).1, (hx.block r (lt_of_get (h.blk r hr).2) (hm r hr)).trans (h.blk r hr).2⟩⟩

theorem Inv.marks_mut (hI : Inv c ℓ kn gen env S a w) : ∀ r ∈ marksOf a.defers, r ∉ mutS ℓ S := fun r hr hm => (hI.good.memJ r hm).2 hr

/-- Behind a step nothing but the world and the state has turned. -/
theorem Inv.step (hI : Inv c ℓ kn gen env S a w) {ℓ' : List Base} {S' : St} {w' : World} (hs : Stepped (c.Ja a) ℓ S w ℓ' S' w') : Inv c ℓ' kn gen env S' a w' := by
  have hle := hs.own_le hI.good.len
  have hℓ : ∀ i, i < S.own.length → ℓ'.getD i default = ℓ.getD i default := fun i hi => prefix_getD hs.pre (by rw [hI.good.len]; exact hi)
  refine ⟨hI.size, hI.defers.ext hs.ext hI.marks_mut, hI.env.grow hle hℓ, hI.gen.grow hle hℓ, hI.kn, hs.good, hI.fresh0, hI.pre.trans hs.pre, hI.ext.then hs.ext hI.fresh, ?_⟩
  intro b hb
  rcases hs.fresh b hb with h1 | h1
  · exact hI.fresh b h1
  · exact .inr (Nat.le_trans hI.ext.size h1)

theorem putK_sound {N : Nat} {dst : Option Nat} {s : SV} {K : Env → Prop} (hN : c.N = N) (hI : Inv c ℓ kn gen env S a w) (hs : s.wf S.own.length = true) (h : putK N dst s kn gen env K) :
    ∃ env', K env' ∧ Inv c ℓ kn gen env' S (a.put dst (s.den ℓ)) w := by
  unfold putK at h
  split at h
  · refine ⟨env, h, ?_⟩
    exact hI
  · rename_i d
    split at h
    · rename_i hb
      simp only [Bool.and_eq_true] at hb
      obtain ⟨⟨h1, h2⟩, h3⟩ := hb
      have h1 := blt_true.1 h1
      have hlt : d < a.tmps.size := by rw [hI.size, hN]; exact h1
      refine ⟨_, h, ?_⟩
      refine ⟨by rw [put_size]; exact hI.size, by rw [put_defers]; exact hI.defers, ?_, ?_, ?_, by rw [Ja_put]; exact hI.good, hI.fresh0, hI.pre, hI.ext, hI.fresh⟩
      · intro t s' hs'
        simp only [find] at hs'
        split at hs'
        · rename_i hn
          have hn := Nat.eq_of_beq_eq_true hn
          cases hs'
          subst hn
          exact ⟨hs, put_get_self hlt⟩
        · rename_i hn
          have hne : t ≠ d := fun e => by subst e; simp at hn
          rw [put_get_other hne]
          exact hI.env t s' hs'
      · intro t s' tags hs'
        obtain ⟨hne, htags⟩ := freshG_spec h2 t s' tags hs'
        have := hI.gen t s' tags hs'
        rw [put_get_other hne, holds_put htags]
        exact this
      · exact (holds_put (freshK_spec h3)).2 hI.kn
    · exact h.elim

theorem putG_sound {N : Nat} {dst : Option Nat} {s : SV} {tags : Atoms} {K : Gen → Prop} {v : Value} (hN : c.N = N) (hI : Inv c ℓ kn gen env S a w) (hv : Holds a tags → s.wf S.own.length = true ∧ v = s.den ℓ) (hv' : ¬ Holds a tags → v = undef) (h : putG N dst s tags kn gen env K) :
    ∃ gen', K gen' ∧ Inv c ℓ kn gen' env S (a.put dst v) w := by
  unfold putG at h
  split at h
  · exact ⟨gen, h, hI⟩
  · rename_i d
    split at h
    · rename_i hb
      simp only [Bool.and_eq_true] at hb
      obtain ⟨⟨h1, h2⟩, h3, h4⟩ := hb
      have h1 := blt_true.1 h1
      have hlt : d < a.tmps.size := by rw [hI.size, hN]; exact h1
      split at h
      · rename_i hnone
        refine ⟨_, h, ?_⟩
        refine ⟨by rw [put_size]; exact hI.size, by rw [put_defers]; exact hI.defers, ?_, ?_, ?_, by rw [Ja_put]; exact hI.good, hI.fresh0, hI.pre, hI.ext, hI.fresh⟩
        · intro t s' hs'
          have hne : t ≠ d := fun e => by subst e; rw [hnone] at hs'; cases hs'
          rw [put_get_other hne]
          exact hI.env t s' hs'
        · intro t s' tags' hs'
          simp only [gfind] at hs'
          split at hs'
          · rename_i hn
            have hn := Nat.eq_of_beq_eq_true hn
            simp only [Option.some.injEq, Prod.mk.injEq] at hs'
            obtain ⟨rfl, rfl⟩ := hs'
            subst hn
            rw [put_get_self hlt, holds_put (freshK_spec h4)]
            exact ⟨hv, hv'⟩
          · obtain ⟨hne, htags⟩ := freshG_spec h2 t s' tags' hs'
            have := hI.gen t s' tags' hs'
            rw [put_get_other hne, holds_put htags]
            exact this
        · exact (holds_put (freshK_spec h3)).2 hI.kn
      · exact h.elim
    · exact h.elim

/-- The bool in a guard's slot. -/
theorem gfindE_sound (hI : Inv c ℓ kn gen env S a w) {g : Nat} {s : SV} {tags : Atoms} (h : gfindE gen env g = some (s, tags)) : (Holds a tags → a.tmps.getD g undef = s.den ℓ) ∧ (¬ Holds a tags → a.tmps.getD g undef = undef) := by
  unfold gfindE at h
  split at h
  · rename_i r hr
    cases h
    exact ⟨fun hh => ((hI.gen _ _ _ hr).1 hh).2, (hI.gen _ _ _ hr).2⟩
  · split at h
    · rename_i s' hs'
      simp only [Option.some.injEq, Prod.mk.injEq] at h
      obtain ⟨rfl, rfl⟩ := h
      exact ⟨fun _ => (hI.env _ _ hs').2, fun hn => (hn (by simp [Holds])).elim⟩
    · cases h

theorem yielded_eq {ops : Array Oper} {j g : Nat} (hg : guardSlot ops j = some g) : yielded ops a.tmps j = match a.tmps.getD g undef with
    | .bool b => some b
    | _ => none := by
  unfold guardSlot at hg
  split at hg
  · rename_i o ho
    rw [nth_eq] at ho
    have ho' : ops[j]? = some o := by simpa using ho
    simp only [yielded, ho', Option.bind_some, hg, Array.getD_eq_getD_getElem?]
    cases h : a.tmps[g]? with
    | none => simp [undef]
    | some v => cases v <;> simp
  · cases hg

/-- Nothing is said of the frame. -/
theorem Inv.noEnv (hI : Inv c ℓ kn gen env S a w) : Inv c ℓ [] [] [] S a w :=
  ⟨hI.size, hI.defers, fun t s h => by simp [find] at h, fun t s tags h => by simp [gfind] at h, by simp [Holds], hI.good, hI.fresh0, hI.pre, hI.ext, hI.fresh⟩

def OpsPost (c : Cx) (K : Env → St → Prop) (Kp : SV → St → Prop) (Q : Exit → Act → World → Prop) : Prop :=
  (∀ ℓ kn gen env S a w, Inv c ℓ kn gen env S a w → K env S → Q .normal a w) ∧
  (∀ ℓ S a w v, Inv c ℓ [] [] [] S a w → v.wf S.own.length = true → Kp v S → Q (.panic [{ v := v.den ℓ, recovered := false }]) a w)

theorem wpOps_some {ro : Option Nat} {ops : Array Oper} {Q : Exit → Act → World → Prop} {i : Nat} {rest : List Nat} {o : Oper} (ho : ops[i]? = some o) (h : if Region.wanted o (yielded ops a.tmps) then o.wpIn (fen ro) 0 P a w (wpOpsIn (fen ro) 0 P ops Q rest) Q else wpOpsIn (fen ro) 0 P ops Q rest (a.put o.dst undef) w) :
    wpOpsIn (fen ro) 0 P ops Q (i :: rest) a w := by
  simp only [wpOpsIn, ho]
  split
  · rename_i hw; rw [if_pos hw] at h; exact h
  · rename_i hw; rw [if_neg hw] at h; exact ⟨fun _ _ => trivial, h⟩

theorem tagsK_sound {A B : Atoms → Prop} (hI : Inv c ℓ kn gen env S a w) : ∀ (l kn' : Atoms), Holds a kn' → tagsK gen env A B l kn' → (∃ kn2, Holds a kn2 ∧ Holds a l ∧ A kn2) ∨ (∃ kn2, Holds a kn2 ∧ ¬ Holds a l ∧ B kn2)
  | [], kn', hk, h => .inl ⟨kn', hk, by simp [Holds], h⟩
  | (g, want) :: r, kn', hk, h => by
    simp only [tagsK_cons, tagsOne] at h
    split at h
    · rename_i b hb
      have hgb := hk _ (knownOf_mem hb)
      simp only at hgb
      split at h
      · rename_i hbw
        have := beqB_eq hbw
        subst this
        rcases tagsK_sound hI r kn' hk h with ⟨kn2, h1, h2, h3⟩ | ⟨kn2, h1, h2, h3⟩
        · exact .inl ⟨kn2, h1, fun p hp => by rcases List.mem_cons.1 hp with e | e; (subst e; exact hgb); exact h2 p e, h3⟩
        · exact .inr ⟨kn2, h1, fun hh => h2 (fun p hp => hh p (List.mem_cons_of_mem _ hp)), h3⟩
      · rename_i hbw
        have := beqB_ne hbw
        subst this
        refine .inr ⟨kn', hk, fun hh => ?_, h⟩
        have := hh (g, want) (by simp)
        rw [hgb] at this
        cases want <;> simp at this
    · split at h
      · rename_i b tg hgf
        split at h
        · rename_i hs
          have hge := (gfindE_sound hI hgf).1 (subAtoms_holds hs hk)
          simp only [SV.den] at hge
          by_cases hbw : b = want
          · subst hbw
            have hk2 : Holds a ((g, b) :: kn') := fun p hp => by rcases List.mem_cons.1 hp with e | e; (subst e; exact hge); exact hk p e
            rcases tagsK_sound hI r _ hk2 (h.t rfl) with ⟨kn2, h1, h2, h3⟩ | ⟨kn2, h1, h2, h3⟩
            · exact .inl ⟨kn2, h1, fun p hp => by rcases List.mem_cons.1 hp with e | e; (subst e; exact hge); exact h2 p e, h3⟩
            · exact .inr ⟨kn2, h1, fun hh => h2 (fun p hp => hh p (List.mem_cons_of_mem _ hp)), h3⟩
          · have hb2 : b = !want := by cases b <;> cases want <;> simp_all
            refine .inr ⟨_, fun p hp => ?_, fun hh => ?_, h.f hb2⟩
            · rcases List.mem_cons.1 hp with e | e
              · subst e; simp only; rw [hge, hb2]; cases want <;> rfl
              · exact hk p e
            · have := hh (g, want) (by simp)
              rw [hge] at this
              simp only [Value.bool.injEq] at this
              exact hbw this
        · exact h.elim
      · exact h.elim

theorem vcOps_soundP {ro : Option Nat} {N : Nat} (hN : c.N = N) (hT : TTOK P tt) {ops : Array Oper} {K : Env → St → Prop} {Kp : SV → St → Prop} {Q : Exit → Act → World → Prop} (hQ : OpsPost c K Kp Q) :
    ∀ (rest : List Oper) (i : Nat) (tl : List Oper), ops.toList.drop i = rest ++ tl → ∀ ℓ kn gen env S a w, Inv c ℓ kn gen env S a w → vcOps P tt N ops rest kn gen env S K Kp → wpOpsIn (fen ro) 0 P ops Q (List.range' i rest.length) a w := by
  intro rest
  induction rest with
  | nil =>
    intro i _ _ ℓ kn gen env S a w hI h
    simp only [List.length_nil, List.range'_zero, wpOpsIn]
    exact hQ.1 _ _ _ _ _ _ _ hI h
  | cons o rest ih =>
    intro i tl hi ℓ kn gen env S a w hI h
    have ho : ops[i]? = some o := by
      have : (ops.toList.drop i)[0]? = some o := by rw [hi]; rfl
      simpa using this
    have hi' : ops.toList.drop (i + 1) = rest ++ tl := by
      have := congrArg List.tail hi
      simpa using this
    have next := ih (i + 1) tl hi'
    simp only [List.length_cons, List.range'_succ]
    apply wpOps_some ho
    simp only [vcOps_cons, vcOp] at h
    -- an operation that is carried out
    have run : ∀ kn', Holds a kn' → vcRun P tt kn' (getter gen env kn') o S (fun s S' => putK N o.dst s kn' gen env (fun env' => vcOps P tt N ops rest kn' gen env' S' K Kp)) Kp → o.wpIn (fen ro) 0 P a w (wpOpsIn (fen ro) 0 P ops Q (List.range' (i + 1) rest.length)) Q := by
      intro kn' hk' hr
      have hI' : Inv c ℓ kn' gen env S a w := ⟨hI.size, hI.defers, hI.env, hI.gen, hk', hI.good, hI.fresh0, hI.pre, hI.ext, hI.fresh⟩
      refine vcRun_sound hT hI' hk' ?_ ?_ hr
      · intro r ℓ' S' w' hs hwf hk
        obtain ⟨env', hk2, hI2⟩ := putK_sound hN (hI'.step hs) hwf hk
        exact next _ _ _ _ _ _ _ hI2 hk2
      · intro v ℓ' S' w' hs hwf hk
        exact hQ.2 _ _ _ _ _ (hI'.step hs).noEnv hwf hk
    have skip : ∀ kn', Holds a kn' → putK N o.dst undefS kn' gen env (fun env' => vcOps P tt N ops rest kn' gen env' S K Kp) → wpOpsIn (fen ro) 0 P ops Q (List.range' (i + 1) rest.length) (a.put o.dst undef) w := by
      intro kn' hk' hr
      have hI' : Inv c ℓ kn' gen env S a w := ⟨hI.size, hI.defers, hI.env, hI.gen, hk', hI.good, hI.fresh0, hI.pre, hI.ext, hI.fresh⟩
      obtain ⟨env', hk2, hI2⟩ := putK_sound hN hI' (s := undefS) rfl hr
      exact next _ _ _ _ _ _ _ hI2 hk2
    split at h
    · rename_i hg
      have : Region.wanted o (yielded ops a.tmps) = true := by simp [Region.wanted, hg]
      rw [if_pos this]
      exact run kn hI.kn h
    · rename_i j want hg
      split at h
      · exact h.elim
      · rename_i g hgs
        have hy := yielded_eq (a := a) hgs
        have hwant : Region.wanted o (yielded ops a.tmps) = (yielded ops a.tmps j == some want) := by simp [Region.wanted, hg]
        split at h
        · rename_i b hb
          have hgb := hI.kn _ (knownOf_mem hb)
          simp only at hgb
          rw [hgb] at hy
          simp only at hy
          split at h
          · rename_i hbw
            have := beqB_eq hbw
            subst this
            rw [if_pos (by rw [hwant, hy]; simp)]
            exact run kn hI.kn h
          · rename_i hbw
            have := beqB_ne hbw
            subst this
            rw [if_neg (by rw [hwant, hy]; cases want <;> simp)]
            exact skip kn hI.kn h
        · split at h
          · rename_i b tg hgf
            have hge := gfindE_sound hI hgf
            simp only [SV.den] at hge
            split at h
            · rename_i s hs
              -- is the operation wanted?
              by_cases hw : Region.wanted o (yielded ops a.tmps) = true
              · rw [if_pos hw]
                rw [hwant] at hw
                have hbool : a.tmps.getD g undef = .bool want := by
                  rw [hy] at hw
                  cases hv : a.tmps.getD g undef with
                  | bool b' => rw [hv] at hw; simp at hw; rw [hw]
                  | _ => rw [hv] at hw; simp at hw
                have htg : Holds a tg := by
                  rcases Classical.em (Holds a tg) with h1 | h1
                  · exact h1
                  · have := hge.2 h1; rw [hbool] at this; cases this
                have hall : Holds a ((g, want) :: tg) := by
                  intro p hp
                  rcases List.mem_cons.1 hp with h1 | h1
                  · subst h1; exact hbool
                  · exact htg p h1
                have hpure := stepPure_sound (hI.pctx hT (hall.append hI.kn)) o hs
                refine up_wp (fun c' hc' => by rw [hc'] at hs; simp [stepPure] at hs) (wp_of_value hpure.2 ?_)
                obtain ⟨gen', hk2, hI2⟩ := putG_sound hN hI (v := s.den ℓ) (fun _ => ⟨hpure.1, rfl⟩) (fun hn => (hn hall).elim) h
                exact next _ _ _ _ _ _ _ hI2 hk2
              · rw [if_neg hw]
                have hnot : ¬ Holds a ((g, want) :: tg) := by
                  intro hh
                  have := hh (g, want) (by simp)
                  simp only at this
                  rw [this] at hy
                  simp only at hy
                  rw [hwant, hy] at hw
                  simp at hw
                obtain ⟨gen', hk2, hI2⟩ := putG_sound hN hI (s := s) (v := undef) (fun hh => (hnot hh).elim) (fun _ => rfl) h
                exact next _ _ _ _ _ _ _ hI2 hk2
            · rcases tagsK_sound hI _ _ hI.kn h with ⟨kn', hk', hall, hA⟩ | ⟨kn', hk', hno, hB⟩
              · have hgv : a.tmps.getD g undef = .bool want := hall (g, want) (by simp)
                rw [hgv] at hy
                simp only at hy
                rw [if_pos (by rw [hwant, hy]; simp)]
                exact run kn' hk' hA
              · rw [if_neg ?_]
                · exact skip kn' hk' hB
                · intro hw
                  rw [hwant] at hw
                  have hbool : a.tmps.getD g undef = .bool want := by
                    rw [hy] at hw
                    cases hv : a.tmps.getD g undef with
                    | bool b' => rw [hv] at hw; simp at hw; rw [hw]
                    | _ => rw [hv] at hw; simp at hw
                  have htg : Holds a tg := by
                    rcases Classical.em (Holds a tg) with h1 | h1
                    · exact h1
                    · have := hge.2 h1; rw [hbool] at this; cases this
                  refine hno (fun p hp => ?_)
                  simp only [List.reverse_cons, List.mem_append, List.mem_reverse, List.mem_singleton] at hp
                  rcases hp with h1 | h1
                  · exact htg p h1
                  · subst h1; exact hbool
          · rename_i tg hgf
            have hge := gfindE_sound hI hgf
            have hund : a.tmps.getD g undef = undef := by
              rcases Classical.em (Holds a tg) with h1 | h1
              · exact (hge.1 h1).trans rfl
              · exact hge.2 h1
            rw [hund] at hy
            rw [if_neg (by rw [hwant, hy]; simp [undef])]
            exact skip kn hI.kn h
          · exact h.elim

theorem vcOps_sound {ro : Option Nat} {N : Nat} (hN : c.N = N) (hT : TTOK P tt) {ops : Array Oper} {K : Env → St → Prop} {Kp : SV → St → Prop} {Q : Exit → Act → World → Prop} (hQ : OpsPost c K Kp Q)
    (rest : List Oper) (i : Nat) (hi : ops.toList.drop i = rest) ℓ kn gen env S a w (hI : Inv c ℓ kn gen env S a w) (h : vcOps P tt N ops rest kn gen env S K Kp) : wpOpsIn (fen ro) 0 P ops Q (List.range' i rest.length) a w :=
  vcOps_soundP hN hT hQ rest i [] (by rw [hi, List.append_nil]) ℓ kn gen env S a w hI h

/-- Behind code: the symbolic ways meet the model's. -/
def QK (c : Cx) (K : X → Env → St → Prop) : Exit → Act → World → Prop
  | .normal, a, w => ∃ ℓ env S, Inv c ℓ [] [] env S a w ∧ K .norm env S
  | .exit id, a, w => ∃ ℓ env S, Inv c ℓ [] [] env S a w ∧ K (.exit id) env S
  | .ret, a, w => ∃ ℓ env S, Inv c ℓ [] [] env S a w ∧ K .ret env S
  | .panic ch, a, w => ∃ ℓ S v, Inv c ℓ [] [] [] S a w ∧ v.wf S.own.length = true ∧ ch = [{ v := v.den ℓ, recovered := false }] ∧ K (.pan v) [] S
  | _, _, _ => False

theorem Inv.bare {ℓ : List Base} {kn : Atoms} {gen : Gen} (hI : Inv c ℓ kn gen env S a w) : Inv c ℓ [] [] env S a w :=
  ⟨hI.size, hI.defers, hI.env, fun t s tags h => by simp [gfind] at h, by simp [Holds], hI.good, hI.fresh0, hI.pre, hI.ext, hI.fresh⟩

theorem envLe_spec : ∀ {inv : Env}, envLe env inv → ∀ t s, find inv t = some s → find env t = some s
  | [], _, t, s, h => by simp [find] at h
  | (n, s0) :: r, hh, t, s, h => by
    simp only [envLe] at hh
    simp only [find] at h
    split at h
    · rename_i hn
      have hn := Nat.eq_of_beq_eq_true hn
      cases h
      subst hn
      exact hh.1
    · exact envLe_spec hh.2 t s h

/-- A part of the state and of the frame. -/
theorem Inv.part (hI : Inv c ℓ [] [] env S a w) {env' : Env} {S' : St} (he : envLe env env') (hw : envWf S'.own.length env' = true) (hS : StLe S S') (hm : c.ℓ0.length ≤ S'.own.length) : Inv c (ℓ.take S'.own.length) [] [] env' S' a w := by
  obtain ⟨hle, hS⟩ := hS
  obtain ⟨hg, hmem⟩ := hS (c.Ja a) ℓ w hI.good
  refine ⟨hI.size, hI.defers, ?_, fun t s tags h => by simp [gfind] at h, by simp [Holds], hg, hI.fresh0, ?_, hI.ext, fun b hb => hI.fresh b (hmem b hb)⟩
  · intro t s hs
    have h1 := envWf_spec hw t s hs
    have h2 := hI.env t s (envLe_spec he t s hs)
    refine ⟨h1, ?_⟩
    rw [h2.2]
    refine (SV.den_congr (n := S'.own.length) (fun i hi => ?_) s h1).symm
    simp [List.getD, List.getElem?_take, hi]
  · refine List.prefix_of_prefix_length_le hI.pre (List.take_prefix _ _) ?_
    rw [List.length_take, hI.good.len]
    omega

theorem wp_ops_region {ro : Option Nat} {id : Nat} {ops : Array Oper} {Q : Exit → Act → World → Prop} (h : wpOpsIn (fen ro) 0 P ops Q (List.range' 0 ops.toList.length) a w) : (Code.region id ops false).wpIn (fen ro) 0 P Q a w := by
  refine wpIn_region ?_
  rw [List.range_eq_range']
  simpa using h

/-- A part of the code in which labels stand, none of which is jumped to. -/
theorem wpIn_scope {F : Fence} {n : Nat} {Q : Exit → Act → World → Prop} {body : Code} (hno : ∀ l a w, ¬ Q (.goto l) a w) (h : body.wpIn F n P Q a w) : (Code.scope body).wpIn F n P Q a w := by
  intro b k cs hro hb hr
  have s1 : step P (lone (b.atR a (.code (.scope body) :: k)) cs w) = .next (lone (b.atR a (.code body :: .inScope body :: k)) cs w) := step_lone_go (by simp [stepG, stepG.exec, Frame.atR])
  obtain ⟨e, a₁, w₁, hq, harr⟩ := h b (.inScope body :: k) cs hro hb hr
  have first : StepsIn (Machine.fenced P F) P (lone (b.atR a (.code (.scope body) :: k)) cs w) (lone (b.atR a (.code body :: .inScope body :: k)) cs w) := .one (fenced_calm (fr := b.atR a (.code (.scope body) :: k)) hb hr rfl) s1
  have hx : ∀ id, exitTo id (.inScope body :: k) = exitTo id k := fun id => by simp [exitTo]
  cases e with
  | normal =>
    have s2 : step P (lone (b.atR a₁ (.inScope body :: k)) cs w₁) = .next (lone (b.atR a₁ k) cs w₁) := step_lone_go (by simp [stepG, stepG.exec, Frame.atR])
    exact ⟨.normal, a₁, w₁, hq, first.trans (StepsIn.trans harr (.one (fenced_calm (fr := b.atR a₁ (.inScope body :: k)) hb hr rfl) s2))⟩
  | exit id => exact ⟨.exit id, a₁, w₁, hq, fun k' hk => first.trans (harr.1 k' (by rw [hx]; exact hk)), fun hrd hk => let ⟨k₁, h1, h2⟩ := harr.2 hrd (by rw [hx]; exact hk); ⟨k₁, h1, first.trans h2⟩⟩
  | goto l => exact (hno l a₁ w₁ hq).elim
  | ret => exact ⟨.ret, a₁, w₁, hq, .of_steps first harr⟩
  | panic ch => exact ⟨.panic ch, a₁, w₁, hq, .of_steps first harr⟩
  | outgrown => exact ⟨.outgrown, a₁, w₁, hq, .of_steps first harr⟩

/-- A loop whose invariant bears a number that each round lowers. -/
theorem wpIn_loop_ghost {F : Fence} {n : Nat} {Q : Exit → Act → World → Prop} {body : Code} (I : Nat → Act → World → Prop) (n₀ : Nat) (h₀ : I n₀ a w)
    (round : ∀ k a w, I k a w → body.wpIn F n P (Exit.then (fun a' w' => ∃ k', k' < k ∧ I k' a' w') Q) a w) : (Code.loop body).wpIn F n P Q a w := by
  have key : ∀ (k : Nat) (a : Act) (w : World), I k a w → Code.roundsIn F n P body Q (k + 1) a w := by
    intro k
    induction k using Nat.strongRecOn with
    | _ k ih =>
      intro a w h
      rw [roundsIn_succ]
      refine wpIn_mono (round k a w h) ?_
      intro e a' w' hq
      cases e with
      | normal =>
        obtain ⟨k', hlt, hI⟩ := hq
        have h1 := ih k' hlt a' w' hI
        -- more rounds may be left than are used
        have more : ∀ (p q : Nat) (a : Act) (w : World), p ≤ q → Code.roundsIn F n P body Q p a w → Code.roundsIn F n P body Q q a w := by
          intro p
          induction p with
          | zero => intro q a w _ h; exact h.elim
          | succ p ihp =>
            intro q a w hle h
            obtain ⟨q', rfl⟩ : ∃ q', q = q' + 1 := ⟨q - 1, by omega⟩
            rw [roundsIn_succ] at h ⊢
            refine wpIn_mono h ?_
            intro e a' w' hq
            cases e with
            | normal => exact ihp q' a' w' (by omega) hq
            | _ => exact hq
        exact more (k' + 1) k a' w' hlt h1
      | _ => exact hq
  exact wpIn_loop_rounds (n₀ + 1) (key n₀ a w h₀)

/-- What a result variable yields. -/
def resStep (a : Act) : ResultVar → Sem Value
  | .tmp t => pure (a.tmps.getD t undef)
  | .cell ad t => do loadVar t (← asAddr (a.tmps.getD ad undef))

theorem results_eq (fn : Func) (a : Act) : results fn a.tmps = (do let vs ← fn.results.mapM (resStep a); pure (if h : vs.size = 1 then vs[0] else .tuple vs)) := rfl

theorem resLoad_sound (hT : TTOK P tt) (hI : Inv c ℓ [] [] env S a w) {ad : Nat} {t : TypeId} {s : SV} (h : pureLoad tt S.own t (find env ad) = some s) : s.wf S.own.length = true ∧ (resStep a (.cell ad t)).run P w = .ok (s.den ℓ) w := by
  have hC := hI.pctx (P := P) (tt := tt) (al := []) hT (by simp [Holds])
  have h0 := stepPure_sound hC { (default : Oper) with op := .load t (.tmp ad) } (s := s) (by simpa [stepPure, getter, gfind] using h)
  refine ⟨h0.1, ?_⟩
  cases hf : find env ad with
  | none => rw [hf] at h; simp [pureLoad] at h
  | some x =>
    rw [hf] at h
    cases x with
    | loc i off =>
      have hv := (hI.env ad _ hf).2
      have h1 := h0.2
      simp only [execOp, Act.eval, hv, SV.den, Instr.loadAt, Instr.sureAddr, pure_bind, Sem.run_bind, Sem.run_pure] at h1
      simp only [resStep, hv, SV.den, asAddr, pure_bind]
      cases hl : (loadVar t ⟨(ℓ.getD i default).block, (ℓ.getD i default).off + off, none⟩).run P w with
      | ok v w1 => rw [hl] at h1; simp only [Result.andThen_ok, Result.ok.injEq, Next.value.injEq] at h1; rw [h1.1, h1.2]
      | halt x w1 => rw [hl] at h1; simp at h1
    | _ => simp [pureLoad] at h

theorem resS_sound (hT : TTOK P tt) (hI : Inv c ℓ [] [] env S a w) : ∀ (rs : List ResultVar) (l : List SV), resS tt S.own env rs = some l → SV.wfL S.own.length l = true ∧
    (rs.mapM (resStep a)).run P w = .ok (SV.denL ℓ l) w
  | [], l, h => by simp only [resS, Option.some.injEq] at h; subst h; exact ⟨rfl, by simp [SV.denL]⟩
  | .tmp t :: rs, l, h => by
    simp only [resS] at h
    split at h
    · rename_i s hs
      split at h
      · rename_i l' hl'
        cases h
        have h1 := hI.env t s hs
        have h2 := resS_sound hT hI rs l' hl'
        refine ⟨by simp [SV.wfL, h1.1, h2.1], ?_⟩
        simp only [List.mapM_cons, resStep, Sem.run_bind, Sem.run_pure, Result.andThen_ok, h2.2, SV.denL, h1.2]
      · cases h
    · cases h
  | .cell ad t :: rs, l, h => by
    simp only [resS] at h
    split at h
    · rename_i s hs
      split at h
      · rename_i l' hl'
        cases h
        have h1 := resLoad_sound hT hI hs
        have h2 := resS_sound hT hI rs l' hl'
        refine ⟨by simp [SV.wfL, h1.1, h2.1], ?_⟩
        simp only [List.mapM_cons, Sem.run_bind, Sem.run_pure, Result.andThen_ok, h1.2, h2.2, SV.denL]
      · cases h
    · cases h

theorem resOf_sound (hT : TTOK P tt) {fn : Func} (hI : Inv c ℓ [] [] env S a w) {r : SV} (h : resOf tt S.own env fn.results.toList = some r) : r.wf S.own.length = true ∧ (results fn a.tmps).run P w = .ok (r.den ℓ) w := by
  unfold resOf at h
  have key : ∀ l, resS tt S.own env fn.results.toList = some l → (results fn a.tmps).run P w = .ok (if h : (SV.denL ℓ l).toArray.size = 1 then (SV.denL ℓ l).toArray[0] else .tuple (SV.denL ℓ l).toArray) w := by
    intro l hl
    have h2 := (resS_sound (P := P) hT hI _ l hl).2
    rw [results_eq, Sem.run_bind, Array.mapM_eq_mapM_toList, Sem.run_map, h2]
    simp only [Result.andThen_ok, Sem.run_pure]
  split at h
  · rename_i s hs
    cases h
    have h1 := (resS_sound (P := P) hT hI _ _ hs).1
    refine ⟨by simpa [SV.wfL] using h1, ?_⟩
    rw [key _ hs]
    simp [SV.denL]
  · rename_i l hne hl
    cases h
    have h1 := (resS_sound (P := P) hT hI _ _ hl).1
    refine ⟨by simpa [SV.wf] using h1, ?_⟩
    rw [key _ hl]
    have : ¬ (SV.denL ℓ l).toArray.size = 1 := by
      simp only [List.size_toArray, SV.denL_length]
      intro h1
      obtain ⟨s, rfl⟩ := List.length_eq_one_iff.1 h1
      exact hne s rfl
    rw [dif_neg this]
    rfl
  · cases h

theorem argEnv_spec : ∀ (i : Nat) (args : List SV) (t : Nat) (s : SV), find (argEnv i args) t = some s → i ≤ t ∧ args[t - i]? = some s
  | i, [], t, s, h => by simp [argEnv, find] at h
  | i, s0 :: r, t, s, h => by
    simp only [argEnv, find] at h
    split at h
    · rename_i hn
      have hn := Nat.eq_of_beq_eq_true hn
      cases h
      subst hn
      simp
    · have := argEnv_spec (i + 1) r t s h
      refine ⟨by omega, ?_⟩
      obtain ⟨k, hk⟩ : ∃ k, t - i = k + 1 := ⟨t - i - 1, by omega⟩
      rw [hk, List.getElem?_cons_succ]
      have e : t - (i + 1) = k := by omega
      rw [← e]; exact this.2

end
end Go.Tr
end

/-! FwI -/
section
namespace Go.Tr
open Go
set_option linter.unusedSimpArgs false

/-- The fields of a struct type, one after the other. -/
def fieldsOK (P : Program) : List Field → List Nat → Prop
  | [], [] => True
  | f :: fs, n :: ns => (Nat.beq n 0 = false ∧ ∀ w, (sizeOf f.type).run P w = .ok n w) ∧ fieldsOK P fs ns
  | _, _ => False

theorem fieldsOK_spec {P : Program} : ∀ {fs : List Field} {ns : List Nat}, fieldsOK P fs ns → ns.length = fs.length ∧ ∀ (i : Nat) (f : Field) (n : Nat), fs[i]? = some f → ns[i]? = some n → n ≠ 0 ∧ ∀ w, (sizeOf f.type).run P w = .ok n w
  | [], [], _ => ⟨rfl, fun i f n h => by simp at h⟩
  | [], _ :: _, h => by simp [fieldsOK] at h
  | _ :: _, [], h => by simp [fieldsOK] at h
  | f :: fs, n :: ns, h => by
    simp only [fieldsOK] at h
    obtain ⟨h1, h2⟩ := fieldsOK_spec h.2
    refine ⟨by simp [h1], fun i f' n' hf hn => ?_⟩
    cases i with
    | zero =>
      simp at hf hn
      subst hf hn
      refine ⟨fun e => ?_, h.1.2⟩
      have := h.1.1
      subst e
      simp at this
    | succ i => exact h2 i f' n' (by simpa using hf) (by simpa using hn)

theorem tyStruct {P : Program} {t : TypeId} {offs szs : List Nat} {zs : List Value} {fs : Array Field} (h1 : ∀ w, (isAgg t).run P w = .ok true w) (h2 : ∀ w, (sizeOf t).run P w = .ok zs.length w) (h3 : ∀ w, (zeroValue t).run P w = .ok (.agg zs.toArray) w)
    (h4 : P.underlying t = some (.struct fs)) (h5 : fs.toList.map (·.offset) = offs) (h6 : fieldsOK P fs.toList szs) : TyOK P t (.struct offs szs zs) := by
  obtain ⟨h7, h8⟩ := fieldsOK_spec h6
  exact ⟨h1, h2, h3, fs, h4, h5, by simpa using h7, fun i f n hf hn => h8 i f n (by simpa using hf) hn⟩

theorem Meets.mono {P : Program} {cl : Cal} {args : List SV} {S : St} {R R' : Out → St → Prop} (h : Meets P cl args S R) (hr : ∀ o S', R o S' → R' o S') : Meets P cl args S R' := by
  intro J ℓ w hG hJ
  obtain ⟨nx, h1, h2⟩ := h J ℓ w hG hJ
  exact ⟨nx, h1, h2.mono fun e w' ⟨ℓ', o, S', a1, a2, a3, a4, a5, a6, a7⟩ => ⟨ℓ', o, S', a1, a2, a3, a4, a5, a6, hr _ _ a7⟩⟩

/-- What the data that are known tell of lengths. -/
theorem Meets.of_ok {P : Program} {cl : Cal} {args : List SV} {S : St} {R : Out → St → Prop} (h : (∀ p ∈ S.reps, okD p.2) → Meets P cl args S R) : Meets P cl args S R := by
  intro J ℓ w hG hJ
  exact h (fun p hp => (hG.reps p hp).ok) J ℓ w hG hJ

/-- A contract of a call that writes nothing of its caller's and hands back data alone. -/
def Pure (P : Program) (cl : Cal) (args : List SV) (rs : List (Value × D)) (R : SV → List (Value × D) → Prop) : Prop :=
  Meets P cl args ⟨[], [], rs⟩ (fun o S' => ∃ r out, o = .ret r ∧ S' = ⟨[], [], out⟩ ∧ r.wf 0 = true ∧ R r out)

theorem denL_nil (ℓ ℓ' : List Base) (l : List SV) (h : SV.wfL 0 l = true) : SV.denL ℓ l = SV.denL ℓ' l := SV.denL_congr (n := 0) (fun i hi => by omega) l h
theorem den_nil (ℓ ℓ' : List Base) (s : SV) (h : s.wf 0 = true) : s.den ℓ = s.den ℓ' := SV.den_congr (n := 0) (fun i hi => by omega) s h

theorem cal_sem_nil (ℓ ℓ' : List Base) (args : List SV) (cl : Cal) (h : SV.wfL 0 args = true) (hc : cl.wf 0 = true) : cl.sem ℓ args = cl.sem ℓ' args := by
  have h1 := denL_nil ℓ ℓ' args h
  cases cl with
  | val F => have h2 := den_nil ℓ ℓ' F hc; simp only [Cal.sem]; rw [h1, h2]
  | meth r name => have h2 := den_nil ℓ ℓ' r hc; simp only [Cal.sem]; rw [h1, h2]

/-- At a call: a pure contract whose data are among what is known. -/
theorem Pure.at {P : Program} {cl : Cal} {args : List SV} {rs : List (Value × D)} {R : SV → List (Value × D) → Prop} {S : St} {K : Out → St → Prop} (h : Pure P cl args rs R) (hrs : ∀ p ∈ rs, p ∈ S.reps) (hargs : SV.wfL 0 args = true) (hcl : cl.wf 0 = true)
    (k : ∀ r out, R r out → addReps S out (fun S' => K (.ret r) S')) : Meets P cl args S K := by
  simp only [addReps_eq] at k
  intro J ℓ w hG hJ
  have hG0 : Good (Jx J (mutS ℓ S)) [] ⟨[], [], rs⟩ w := by
    refine ⟨rfl, by simp [mutS, mutL], by simp [mutS, mutL], by simp [mutS, mutL], by simp, by simp, by simp, ?_⟩
    intro p hp
    refine (hG.reps p (hrs p hp)).map (fun b _ hb => ⟨⟨hb, by simp [mutS, mutL]⟩, rfl⟩)
  have hJ0 : Fresh (Jx J (mutS ℓ S)) w := fun b hb => ⟨hJ b hb, fun hm => by have := hG.lt b hm; omega⟩
  obtain ⟨nx, h1, h2⟩ := h _ [] w hG0 hJ0
  refine ⟨nx, by rw [cal_sem_nil ℓ [] args cl hargs hcl]; exact h1, h2.mono ?_⟩
  rintro e w' ⟨ℓ', o, S', he, hwf, _, hx, hG', hf, r, out, rfl, rfl, hr0, hR⟩
  have hx0 : Ext [] w w' := by simpa [mutS, mutL] using hx
  have hℓ' : ℓ' = [] := by have := hG'.len; simpa using this
  subst hℓ'
  refine ⟨ℓ, .ret r, ⟨S.own, S.accs, S.reps ++ out⟩, ?_, SV.wf_mono (Nat.zero_le _) r hr0, List.prefix_refl _, hx0.mono (by simp), ?_, fun b hb => .inl hb, k r out hR⟩
  · rw [he]; simp only [Out.ending]; rw [SV.den_congr (n := 0) (ℓ := ℓ) (ℓ' := []) (fun i hi => by omega) r hr0]
  · have hsame : ∀ b, b < w.heap.size → w'.heap[b]? = w.heap[b]? := fun b hb => hx0.block b hb (by simp)
    have hm : mutS ℓ ⟨S.own, S.accs, S.reps ++ out⟩ = mutS ℓ S := rfl
    refine ⟨hG.len, hG.nodup, fun b hb => Nat.lt_of_lt_of_le (hG.lt b hb) hx0.size, hG.memJ, hG.wf, ?_, ?_, ?_⟩
    · intro i b k hi hk
      exact (hG.own i b k hi hk).keep (wf_of_mem hG.wf hk) (fun _ _ => rfl) (fun _ _ hj => hj) (fun hlt => hsame _ hlt)
    · intro a ha
      exact (hG.accs a ha).keep (fun x hx hj => ⟨hj, hsame x hx⟩) (fun x _ hlt => hsame x hlt)
    · intro p hp
      rcases List.mem_append.1 hp with h3 | h3
      · exact (hG.reps p h3).map (fun b hb hj => ⟨hj, hsame b hb⟩)
      · have := hG'.reps p h3
        refine this.map (fun b _ hj => ⟨?_, rfl⟩)
        exact hj.1

/-- The end of a pure function. -/
theorem AtRet.pure {r : SV} {S : St} {R : SV → List (Value × D) → Prop} (out : List (Value × D)) (hr : r.wf 0 = true) (ho : ∀ p ∈ out, p ∈ S.reps) (h : R r out) : AtRet 0 (.ret r) S (fun o S' => ∃ r out, o = .ret r ∧ S' = ⟨[], [], out⟩ ∧ r.wf 0 = true ∧ R r out) :=
  ⟨⟨[], [], out⟩, StLe.part S 0 (Nat.zero_le _) (by simp) [] (List.nil_sublist _) out ho, Nat.zero_le _, hr, r, out, rfl, rfl, hr, h⟩

/-- The cells of a datum, with names for the slices in it. -/
def openD : D → (List SV → List (Value × D) → Prop) → Prop
  | .int k n, K => K [.v (.int k n)] []
  | .bool b, K => K [.v (.bool b)] []
  | .str s, K => K [.v (.string s)] []
  | .sl k ds, K => ∀ a cap, ds.length ≤ cap → ds.length ≤ 1152921504606846976 → K [.v (.slice a ds.length cap)] [(.slice a ds.length cap, .sl k ds)]
  | .agg ds, K => openA ds K
  | .ifc t d, K => openD d (fun svs rs => match svs with
    | [s] => K [.ifc t s] rs
    | _ => True)
where
  openA : List D → (List SV → List (Value × D) → Prop) → Prop
  | [], K => K [] []
  | d :: r, K => openD d (fun xs rs => openA r (fun ys ss => forceL (xs ++ ys) (fun l => forceL (rs ++ ss) (fun l' => K l l'))))

mutual
theorem openD_sound {J : Nat → Prop} {w : World} : ∀ (d : D) (cs : List Value) (K : List SV → List (Value × D) → Prop), RepC J w d cs → openD d K → ∃ svs rs, (∀ ℓ, SV.denL ℓ svs = cs) ∧ SV.wfL 0 svs = true ∧ (∀ p ∈ rs, Rep J w p.1 p.2) ∧ K svs rs
  | .int k n, cs, K, h, hk => by simp only [RepC] at h; subst h; exact ⟨_, _, fun ℓ => rfl, rfl, by simp, hk⟩
  | .bool b, cs, K, h, hk => by simp only [RepC] at h; subst h; exact ⟨_, _, fun ℓ => rfl, rfl, by simp, hk⟩
  | .str s, cs, K, h, hk => by simp only [RepC] at h; subst h; exact ⟨_, _, fun ℓ => rfl, rfl, by simp, hk⟩
  | .sl k ds, cs, K, h, hk => by
    have h' := h
    simp only [RepC] at h
    obtain ⟨a, cap, rfl, hle, _⟩ := h
    refine ⟨_, _, fun ℓ => rfl, rfl, ?_, hk a cap hle.1 hle.2⟩
    intro p hp
    simp at hp
    subst hp
    exact h'
  | .agg ds, cs, K, h, hk => by
    simp only [RepC] at h
    simp only [openD] at hk
    exact openA_sound ds cs K h hk
  | .ifc t d, cs, K, h, hk => by
    simp only [RepC] at h
    obtain ⟨v, rfl, h2⟩ := h
    simp only [openD] at hk
    obtain ⟨svs, rs, e1, w1, p1, hk1⟩ := openD_sound d [v] _ h2 hk
    have hl : svs.length = 1 := by have := congrArg List.length (e1 []); simpa [SV.denL_length] using this
    match svs, hl with
    | [s], _ =>
      refine ⟨[.ifc t s], rs, fun ℓ => ?_, by simpa [SV.wfL, SV.wf] using w1, p1, hk1⟩
      have := e1 ℓ
      simp only [SV.denL, List.cons.injEq, and_true] at this
      simp only [SV.denL, SV.den, this]
theorem openA_sound {J : Nat → Prop} {w : World} : ∀ (ds : List D) (cs : List Value) (K : List SV → List (Value × D) → Prop), RepA J w ds cs → openD.openA ds K → ∃ svs rs, (∀ ℓ, SV.denL ℓ svs = cs) ∧ SV.wfL 0 svs = true ∧ (∀ p ∈ rs, Rep J w p.1 p.2) ∧ K svs rs
  | [], cs, K, h, hk => by
    simp only [RepA] at h
    subst h
    exact ⟨[], [], fun ℓ => rfl, rfl, by simp, hk⟩
  | d :: ds, cs, K, h, hk => by
    simp only [RepA] at h
    obtain ⟨x, y, rfl, h1, h2⟩ := h
    simp only [openD.openA] at hk
    obtain ⟨sx, rx, e1, w1, p1, hk1⟩ := openD_sound d x _ h1 hk
    obtain ⟨sy, ry, e2, w2, p2, hk2⟩ := openA_sound ds y _ h2 hk1
    rw [forceL_eq, forceL_eq] at hk2
    refine ⟨_, _, fun ℓ => by rw [SV.denL_append, e1, e2], wfL_append w1 w2, ?_, hk2⟩
    intro p hp
    rcases List.mem_append.1 hp with h3 | h3
    · exact p1 p h3
    · exact p2 p h3
 end

/-- More that is known: a block that nobody changes, and data. -/
theorem Good.know {J : Nat → Prop} {ℓ : List Base} {S : St} {w : World} (h : Good J ℓ S w) (b : Base) (cs : List SV) (hcs : SV.wfL 0 cs = true) (hok : BlkOK (Jx J (mutS ℓ S)) ℓ w b (.imm cs)) (rs : List (Value × D)) (hrs : ∀ p ∈ rs, Rep (Jx J (mutS ℓ S)) w p.1 p.2) :
    Good J (ℓ ++ [b]) ⟨S.own ++ [.imm cs], S.accs, S.reps ++ rs⟩ w ∧ ∀ x, x ∈ mutS (ℓ ++ [b]) ⟨S.own ++ [.imm cs], S.accs, S.reps ++ rs⟩ ↔ x ∈ mutS ℓ S := by
  have hm : ∀ x, x ∈ mutS (ℓ ++ [b]) ⟨S.own ++ [.imm cs], S.accs, S.reps⟩ ↔ x ∈ mutS ℓ S := by
    intro x
    rw [mutS_push h.len b (.imm cs) x]
    simp [Blk.mut]
  have hm' : mutS (ℓ ++ [b]) ⟨S.own ++ [.imm cs], S.accs, S.reps⟩ = mutS ℓ S := by
    simp [mutS, mutL_append h.len, mutL, Blk.mut]
  have hg := h.push b (.imm cs) (SV.wfL_mono (Nat.zero_le _) cs hcs) (by simp [Blk.mut]) (Nat.le_refl _) (fun _ _ => rfl) (by rw [hm']; exact hok)
  have hm2 : mutS (ℓ ++ [b]) ⟨S.own ++ [.imm cs], S.accs, S.reps ++ rs⟩ = mutS ℓ S := hm'
  refine ⟨⟨hg.len, hg.nodup, hg.lt, hg.memJ, hg.wf, hg.own, hg.accs, ?_⟩, fun x => by rw [hm2]⟩
  intro p hp
  rcases List.mem_append.1 hp with h3 | h3
  · exact hg.reps p h3
  · rw [hm2]; exact hrs p h3

/-- More data that are known. -/
theorem Good.reps_add {J : Nat → Prop} {ℓ : List Base} {S : St} {w : World} (h : Good J ℓ S w) (rs : List (Value × D)) (hrs : ∀ p ∈ rs, Rep (Jx J (mutS ℓ S)) w p.1 p.2) : Good J ℓ ⟨S.own, S.accs, S.reps ++ rs⟩ w := by
  refine ⟨h.len, h.nodup, h.lt, h.memJ, h.wf, h.own, h.accs, ?_⟩
  intro p hp
  rcases List.mem_append.1 hp with h3 | h3
  · exact h.reps p h3
  · exact hrs p h3

theorem OwnKept.append (S : St) (l : List Blk) (accs : List Acc) (reps : List (Value × D)) : OwnKept S ⟨S.own ++ l, accs, reps⟩ := by
  intro i cs h
  have hlt : i < S.own.length := by
    rcases Nat.lt_or_ge i S.own.length with h1 | h1
    · exact h1
    · rw [nth_eq, List.getElem?_eq_none h1] at h; simp [cellsIn] at h
  rw [nth_eq] at h ⊢
  show cellsIn ((S.own ++ l)[i]?) = some cs
  rw [List.getElem?_append_left hlt]
  exact h

theorem addr_add (b off k : Nat) : (⟨b, off, none⟩ : Addr).add k = ⟨b, off + k, none⟩ := by
  unfold Addr.add; split
  · rename_i h; simp [h]
  · rfl

/-- x[i] of a slice that reads as data. -/
theorem at_index {P : Program} {tt : Tab} (hT : TTOK P tt) {t e : TypeId} {k : Nat} {x ix : SV} {S : St} {K : SV → St → Prop} {a : Option Addr} {n c : Nat} {i : Int} {kk : IntKind} {ds : List D} {d : D} (j : Nat) (hx : x = .v (.slice a n c)) (hi : ix = .v (.int kk i)) (ht : tt t = some (.slice e k))
    (hr : nth S.reps j = some (.slice a n c, .sl k ds)) (h0 : 0 ≤ i) (hd : ds[i.toNat]? = some d)
    (h : openD d (fun cs rs => forceL (S.own ++ [.imm cs]) (fun own => putOwn S own (fun S1 => addReps S1 rs (fun S' => K (.loc S.own.length 0) S'))))) : AtPure P (fun ℓ => Instr.indexAt t (x.den ℓ) (ix.den ℓ)) S K := by
  subst hx hi
  constructor
  intro J ℓ w hG hJ
  have hrep := hG.reps _ (List.mem_of_getElem? (by rw [← nth_eq]; exact hr))
  simp only [Rep, RepC] at hrep
  obtain ⟨a', cap, heq, hle, hbl⟩ := hrep
  simp only [List.cons.injEq, Value.slice.injEq, and_true] at heq
  obtain ⟨rfl, rfl, rfl⟩ := heq
  have hlt : i.toNat < ds.length := (List.getElem?_eq_some_iff.1 hd).1
  rcases hbl with h1 | ⟨b, off, cc, T, fz, rfl, hjb, hb, he⟩
  · subst h1; simp at hlt
  · obtain ⟨hlen, hc⟩ := he.get hd
    obtain ⟨svs, rs, e1, w1, p1, hk⟩ := openD_sound d _ _ hc h
    rw [forceL_eq, putOwn_eq, addReps_eq] at hk
    obtain ⟨hG', hm⟩ := hG.know ⟨b, off + i.toNat * k⟩ svs w1 ⟨hjb, cc, T, fz, hb, k, by rw [e1, List.drop_drop]⟩ rs p1
    refine ⟨_, ℓ ++ [⟨b, off + i.toNat * k⟩], _, ?_, by simpa using loc_wf _, List.prefix_append _ _, hG', fun y hy => (hm y).1 hy, OwnKept.append _ _ _ _, hk⟩
    intro w'
    obtain ⟨_, hu, hse⟩ := hT t _ ht
    simp only [Instr.indexAt, SV.den, asIntOf, pure_bind, Sem.run_bind, run_underlying' hu, Result.andThen_ok, Sem.run_pure]
    rw [if_pos ⟨h0, by omega⟩]
    simp only [Sem.run_bind, hse, Result.andThen_ok, Sem.run_pure, addr_add]
    rw [← hG.len, getD_new]
    simp

mutual
/-- The cells read as the datum, by what is known. -/
def RepS (reps : List (Value × D)) : D → List SV → Prop
  | .int k n, cs => cs = [.v (.int k n)]
  | .bool b, cs => cs = [.v (.bool b)]
  | .str s, cs => cs = [.v (.string s)]
  | .sl k ds, cs => (∃ v, cs = [.v v] ∧ (v, .sl k ds) ∈ reps) ∨ (ds = [] ∧ cs = [.v (.slice none 0 0)])
  | .agg ds, cs => RepSA reps ds cs
  | .ifc t d, cs => ∃ s, cs = [.ifc t s] ∧ RepS reps d [s]
def RepSA (reps : List (Value × D)) : List D → List SV → Prop
  | [], cs => cs = []
  | d :: ds, cs => ∃ x y, cs = x ++ y ∧ RepS reps d x ∧ RepSA reps ds y
 end

mutual
theorem RepS.sound {J : Nat → Prop} {w : World} {ℓ : List Base} {reps : List (Value × D)} (hr : ∀ p ∈ reps, Rep J w p.1 p.2) : ∀ (d : D) (cs : List SV), RepS reps d cs → RepC J w d (SV.denL ℓ cs)
  | .int k n, cs, h => by simp only [RepS] at h; subst h; rfl
  | .bool b, cs, h => by simp only [RepS] at h; subst h; rfl
  | .str s, cs, h => by simp only [RepS] at h; subst h; rfl
  | .sl k ds, cs, h => by
    simp only [RepS] at h
    rcases h with ⟨v, rfl, hv⟩ | ⟨rfl, rfl⟩
    · exact hr _ hv
    · exact ⟨none, 0, rfl, ⟨Nat.le_refl _, Nat.zero_le _⟩, .inl rfl⟩
  | .agg ds, cs, h => by
    simp only [RepS] at h
    simp only [RepC]
    exact RepSA.sound hr ds cs h
  | .ifc t d, cs, h => by
    simp only [RepS] at h
    obtain ⟨s, rfl, h2⟩ := h
    exact ⟨s.den ℓ, rfl, RepS.sound hr d [s] h2⟩
theorem RepSA.sound {J : Nat → Prop} {w : World} {ℓ : List Base} {reps : List (Value × D)} (hr : ∀ p ∈ reps, Rep J w p.1 p.2) : ∀ (ds : List D) (cs : List SV), RepSA reps ds cs → RepA J w ds (SV.denL ℓ cs)
  | [], cs, h => by simp only [RepSA] at h; subst h; rfl
  | d :: ds, cs, h => by
    simp only [RepSA] at h
    obtain ⟨x, y, rfl, h1, h2⟩ := h
    rw [SV.denL_append]
    exact ⟨_, _, rfl, RepS.sound hr d x h1, RepSA.sound hr ds y h2⟩
 end

def wfB (n : Nat) : List Blk → Bool
  | [] => true
  | k :: r => match k.wf n with
    | true => wfB n r
    | false => false

theorem wfB_spec {n : Nat} : ∀ {l : List Blk}, wfB n l = true → ∀ k ∈ l, k.wf n = true
  | [], _, k, hk => by simp at hk
  | k0 :: r, h, k, hk => by
    simp only [wfB] at h
    split at h
    · rename_i h0
      rcases List.mem_cons.1 hk with h1 | h1
      · subst h1; exact h0
      · exact wfB_spec h k h1
    · cases h

theorem StLe.of {S S' : St} (h1 : S.own.take S'.own.length = S'.own) (h2 : S'.accs.Sublist S.accs) (h3 : ∀ p ∈ S'.reps, p ∈ S.reps) (hle : Nat.ble S'.own.length S.own.length = true) (hwf : wfB S'.own.length S'.own = true) : StLe S S' := by
  have := StLe.part S S'.own.length (Nat.le_of_ble_eq_true hle) (by rw [h1]; exact wfB_spec hwf) S'.accs h2 S'.reps h3
  rw [h1] at this
  exact this

/-- The own blocks and data that are named, no slices of its own. -/
theorem StLe.to {S : St} (own : List Blk) (reps : List (Value × D)) (h1 : S.own.take own.length = own) (h3 : ∀ p ∈ reps, p ∈ S.reps) (hle : Nat.ble own.length S.own.length = true) (hwf : wfB own.length own = true) : StLe S ⟨own, [], reps⟩ :=
  StLe.of h1 (List.nil_sublist _) h3 hle hwf

/-- The end of a function that was handed own blocks: what they hold now. -/
theorem ret_own {m : Nat} {o : Out} {S : St} {R : Out → St → Prop} (own : List Blk) (h1 : S.own.take own.length = own) (hm : Nat.beq own.length m = true) (hle : Nat.ble own.length S.own.length = true) (hwf : wfB own.length own = true) (ho : o.wf own.length = true) (h : R o ⟨own, [], []⟩) : AtRet m o S R :=
  ⟨⟨own, [], []⟩, StLe.to own [] h1 (by simp) hle hwf, Nat.le_of_eq (Nat.eq_of_beq_eq_true hm).symm, ho, h⟩

theorem StLe.refl (S : St) : StLe S S := by
  refine ⟨Nat.le_refl _, fun J ℓ w h => ?_⟩
  rw [← h.len, List.take_length]
  exact ⟨h, fun _ hb => hb⟩

theorem wrap_i64 {n : Int} (h1 : -9223372036854775808 ≤ n) (h2 : n ≤ 9223372036854775807) : IntKind.i64.wrap n = n := by
  rw [IntKind.wrap_i64]; omega

end Go.Tr
end

/-! FwJ -/
section
namespace Go.Tr
open Go
set_option linter.unusedSimpArgs false

def Blk.ren (r : Nat → Nat) : Blk → Blk
  | .cells T cs => .cells T (SV.renL r cs)
  | .obj o => .obj o
  | .imm cs => .imm (SV.renL r cs)
  | .dead => .dead
  | .iter i s n p => .iter (r i) s n p
  | .lp x => .lp ⟨x.N, envRen r x.env, x.ps, x.assign, x.body, x.state, x.pend⟩

theorem ren_find {r : Nat → Nat} : ∀ {env : Env} {t : Nat} {s : SV}, find env t = some s → find (envRen r env) t = some (s.ren r)
  | [], t, s, h => by simp [find] at h
  | (n, s1) :: e, t, s, h => by
    simp only [find, envRen] at h ⊢
    cases hb : Nat.beq n t with
    | true => rw [hb] at h; cases h; rfl
    | false => rw [hb] at h; exact ren_find h

def Out.ren (r : Nat → Nat) : Out → Out
  | .ret x => .ret (x.ren r)
  | .pan x => .pan (x.ren r)

def Cal.ren (r : Nat → Nat) : Cal → Cal
  | .val F => .val (F.ren r)
  | .meth x name => .meth (x.ren r) name

theorem Blk.ren_mut (r : Nat → Nat) (k : Blk) : (k.ren r).mut = k.mut := by cases k <;> rfl

theorem mutL_uniq : ∀ {ℓ : List Base} {own : List Blk}, (mutL ℓ own).Nodup → ∀ (i j : Nat) (b b' : Base) (k k' : Blk), ℓ[i]? = some b → own[i]? = some k → k.mut = true → ℓ[j]? = some b' → own[j]? = some k' → k'.mut = true → b.block = b'.block → i = j := by
  intro ℓ
  induction ℓ with
  | nil => intro own _ i j b b' k k' h1; simp at h1
  | cons c ℓ ih =>
    intro own hnd i j b b' k k' h1 h2 h3 h4 h5 h6 h7
    cases own with
    | nil => simp at h2
    | cons q own =>
      simp only [mutL] at hnd
      rw [List.nodup_append] at hnd
      cases i with
      | zero =>
        cases j with
        | zero => rfl
        | succ j =>
          simp at h1 h2 h4 h5
          subst h1 h2
          simp only [h3, if_true] at hnd
          exact (hnd.2.2 c.block (by simp) b'.block (mem_mutL.2 ⟨j, b', k', h4, h5, h6, rfl⟩) h7).elim
      | succ i =>
        cases j with
        | zero =>
          simp at h1 h2 h4 h5
          subst h4 h5
          simp only [h6, if_true] at hnd
          exact (hnd.2.2 c.block (by simp) b.block (mem_mutL.2 ⟨i, b, k, h1, h2, h3, rfl⟩) h7.symm).elim
        | succ j =>
          simp at h1 h2 h4 h5
          rw [ih hnd.2.1 i j b b' k k' h1 h2 h3 h4 h5 h6 h7]

theorem mutL_nodup : ∀ {ℓ : List Base} {own : List Blk}, (∀ (i j : Nat) (b b' : Base) (k k' : Blk), ℓ[i]? = some b → own[i]? = some k → k.mut = true → ℓ[j]? = some b' → own[j]? = some k' → k'.mut = true → b.block = b'.block → i = j) → (mutL ℓ own).Nodup := by
  intro ℓ
  induction ℓ with
  | nil => intro own _; simp [mutL]
  | cons c ℓ ih =>
    intro own h
    cases own with
    | nil => simp [mutL]
    | cons q own =>
      simp only [mutL]
      rw [List.nodup_append]
      refine ⟨by split <;> simp, ih (fun i j b b' k k' h1 h2 h3 h4 h5 h6 h7 => by
        have := h (i + 1) (j + 1) b b' k k' (by simpa using h1) (by simpa using h2) h3 (by simpa using h4) (by simpa using h5) h6 h7
        omega), ?_⟩
      intro x hx y hy hxy
      split at hx
      · rename_i hq
        simp at hx
        subst hx hxy
        obtain ⟨i, b, k, h1, h2, h3, h4⟩ := mem_mutL.1 hy
        have := h 0 (i + 1) c b q k rfl rfl hq (by simpa using h1) (by simpa using h2) h3 h4.symm
        omega
      · simp at hx

theorem mutL_congr : ∀ {ℓ : List Base} {own own' : List Blk}, own.map Blk.mut = own'.map Blk.mut → mutL ℓ own = mutL ℓ own'
  | [], own, own', _ => by simp [mutL]
  | b :: ℓ, [], [], _ => rfl
  | b :: ℓ, [], _ :: _, h => by simp at h
  | b :: ℓ, _ :: _, [], h => by simp at h
  | b :: ℓ, k :: ks, k' :: ks', h => by
    simp only [List.map_cons, List.cons.injEq] at h
    simp only [mutL, h.1, mutL_congr (ℓ := ℓ) h.2]

/-- Own blocks handed back into their places. -/
def setAll (own : List Blk) : List Nat → List Blk → List Blk
  | i :: ix, k :: ks => setAll (own.set i k) ix ks
  | _, _ => own

theorem setAll_length : ∀ (ix : List Nat) (ks own : List Blk), (setAll own ix ks).length = own.length
  | [], ks, own => by cases ks <;> rfl
  | i :: ix, [], own => rfl
  | i :: ix, k :: ks, own => by simp only [setAll, setAll_length ix ks, List.length_set]

theorem setAll_other : ∀ (ix : List Nat) (ks own : List Blk) (i : Nat), i ∉ ix → (setAll own ix ks)[i]? = own[i]?
  | [], ks, own, i, _ => by cases ks <;> rfl
  | j :: ix, [], own, i, _ => rfl
  | j :: ix, k :: ks, own, i, h => by
    simp only [List.mem_cons, not_or] at h
    simp only [setAll, setAll_other ix ks _ i h.2]
    rw [List.getElem?_set_ne (Ne.symm h.1)]

theorem setAll_at : ∀ (ix : List Nat) (ks own : List Blk) (p i : Nat) (k : Blk), ix.Nodup → ix[p]? = some i → ks[p]? = some k → i < own.length → (setAll own ix ks)[i]? = some k
  | [], ks, own, p, i, k, _, h, _, _ => by simp at h
  | j :: ix, [], own, p, i, k, _, _, h, _ => by simp at h
  | j :: ix, q :: ks, own, 0, i, k, hn, h1, h2, h3 => by
    simp at h1 h2
    subst h1 h2
    simp only [setAll]
    rw [setAll_other ix ks _ j (List.nodup_cons.1 hn).1, List.getElem?_set_self h3]
  | j :: ix, q :: ks, own, p + 1, i, k, hn, h1, h2, h3 => by
    simp only [setAll]
    exact setAll_at ix ks _ p i k (List.nodup_cons.1 hn).2 (by simpa using h1) (by simpa using h2) (by simpa using h3)

theorem setAll_mut : ∀ (ix : List Nat) (ks own : List Blk), (∀ (p i : Nat) (k : Blk), ix[p]? = some i → ks[p]? = some k → ∃ q, own[i]? = some q ∧ q.mut = k.mut) → ix.Nodup → (setAll own ix ks).map Blk.mut = own.map Blk.mut
  | [], ks, own, _, _ => by cases ks <;> rfl
  | i :: ix, [], own, _, _ => rfl
  | i :: ix, k :: ks, own, h, hn => by
    simp only [setAll]
    obtain ⟨q, hq, hm⟩ := h 0 i k rfl rfl
    have e : (own.set i k).map Blk.mut = own.map Blk.mut := by
      apply List.ext_getElem?
      intro j
      simp only [List.getElem?_map, List.getElem?_set]
      split
      · subst_vars
        split
        · simp [hq, hm]
        · rename_i hlt; rw [List.getElem?_eq_none (by omega)] at hq; cases hq
      · rfl
    rw [setAll_mut ix ks _ ?_ (List.nodup_cons.1 hn).2, e]
    intro p j k' h1 h2
    have hne : j ≠ i := fun e => (List.nodup_cons.1 hn).1 (e ▸ List.mem_of_getElem? h1)
    obtain ⟨q', hq', hm'⟩ := h (p + 1) j k' (by simpa using h1) (by simpa using h2)
    exact ⟨q', by rw [List.getElem?_set_ne (Ne.symm hne)]; exact hq', hm'⟩

theorem BlkOK.ren {J J' : Nat → Prop} {ℓ ℓ' : List Base} {w : World} {b : Base} {k : Blk} {n : Nat} {r : Nat → Nat} (hr : ∀ i, i < n → ℓ.getD (r i) default = ℓ'.getD i default) (hw : k.wf n = true) (hJ : ∀ x, J x → J' x) : BlkOK J ℓ' w b k → BlkOK J' ℓ w b (k.ren r) := by
  intro h
  cases k with
  | cells T cs =>
    simp only [BlkOK, Blk.ren, Blk.wf] at h hw ⊢
    rw [SV.denL_ren hr cs hw]; exact h
  | obj o => exact h
  | imm cs =>
    simp only [BlkOK, Blk.ren, Blk.wf] at h hw ⊢
    rw [SV.denL_ren hr cs hw]; exact ⟨hJ _ h.1, h.2⟩
  | dead => trivial
  | lp x =>
    simp only [BlkOK, Blk.ren, Blk.wf] at h hw ⊢
    obtain ⟨h0, q, hb, h1, h2, h3, h4, h5, h6, h7⟩ := h
    refine ⟨h0, q, hb, h1, h2, h3, h4, h5, h6, fun t s hs => ?_⟩
    obtain ⟨s0, hs0, rfl⟩ := find_ren hs
    rw [SV.den_ren hr s0 (envWf_spec hw t s0 hs0)]
    exact h7 t s0 hs0
  | iter i s n p =>
    simp only [BlkOK, Blk.ren, Blk.wf, blt_true] at h hw ⊢
    rw [hr i hw]; exact h

theorem BlkOK.unren {J J' : Nat → Prop} {ℓ ℓ' : List Base} {w : World} {b : Base} {k : Blk} {n : Nat} {r : Nat → Nat} (hr : ∀ i, i < n → ℓ.getD (r i) default = ℓ'.getD i default) (hw : k.wf n = true) (hJ : ∀ x, J x → J' x) : BlkOK J ℓ w b (k.ren r) → BlkOK J' ℓ' w b k := by
  intro h
  cases k with
  | cells T cs =>
    simp only [BlkOK, Blk.ren, Blk.wf] at h hw ⊢
    rw [SV.denL_ren hr cs hw] at h; exact h
  | obj o => exact h
  | imm cs =>
    simp only [BlkOK, Blk.ren, Blk.wf] at h hw ⊢
    rw [SV.denL_ren hr cs hw] at h; exact ⟨hJ _ h.1, h.2⟩
  | dead => trivial
  | lp x =>
    simp only [BlkOK, Blk.ren, Blk.wf] at h hw ⊢
    obtain ⟨h0, q, hb, h1, h2, h3, h4, h5, h6, h7⟩ := h
    refine ⟨h0, q, hb, h1, h2, h3, h4, h5, h6, fun t s hs => ?_⟩
    rw [← SV.den_ren hr s (envWf_spec hw t s hs)]
    exact h7 t _ (ren_find hs)
  | iter i s n p =>
    simp only [BlkOK, Blk.ren, Blk.wf, blt_true] at h hw ⊢
    rw [hr i hw] at h; exact h

theorem Blk.wf_ren {n m : Nat} {r : Nat → Nat} (h : ∀ i, i < n → r i < m) {k : Blk} (hk : k.wf n = true) : (k.ren r).wf m = true := by
  cases k <;> simp only [Blk.wf, Blk.ren] at hk ⊢
  · exact SV.wfL_ren h _ hk
  · exact SV.wfL_ren h _ hk
  · exact envWf_ren h hk
  · simp only [blt_true] at hk ⊢; exact h _ hk

theorem cal_sem_ren {n : Nat} {ℓ ℓ' : List Base} {r : Nat → Nat} (h : ∀ i, i < n → ℓ.getD (r i) default = ℓ'.getD i default) (args : List SV) (cl : Cal) (ha : SV.wfL n args = true) (hc : cl.wf n = true) : (cl.ren r).sem ℓ (SV.renL r args) = cl.sem ℓ' args := by
  have h1 := SV.denL_ren h args ha
  cases cl with
  | val F => have h2 := SV.den_ren h F hc; simp only [Cal.ren, Cal.sem]; rw [h1, h2]
  | meth x name => have h2 := SV.den_ren h x hc; simp only [Cal.ren, Cal.sem]; rw [h1, h2]

def rix (ix : List Nat) : Nat → Nat := fun i => ix.getD i 0

/-- The blocks ix are handed in; what is new stands behind the n that there were. -/
def rixN (ix : List Nat) (n : Nat) : Nat → Nat := fun i => if i < ix.length then ix.getD i 0 else n + (i - ix.length)

theorem flatMap_perm {α β : Type} (f : α → List β) {l l' : List α} (h : l.Perm l') : (l.flatMap f).Perm (l'.flatMap f) := by
  induction h with
  | nil => exact .refl _
  | cons x _ ih => simp only [List.flatMap_cons]; exact ih.append_left _
  | swap x y l => simp only [List.flatMap_cons, ← List.append_assoc]; exact List.perm_append_comm.append_right _
  | trans _ _ h1 h2 => exact h1.trans h2

/-- At a call that is handed the own blocks ix and some of the slices that may grow: its contract is over these alone (numbered anew); it may hand back new ones. -/
theorem Meets.frameG {P : Program} {cl : Cal} {args : List SV} {own : List Blk} {accs rest : List Acc} {rs : List (Value × D)} {R : Out → St → Prop} {S : St} {K : Out → St → Prop} {cl' : Cal} {args' : List SV} (h : Meets P cl args ⟨own, accs, rs⟩ R) (ix : List Nat)
    (hcl' : cl' = cl.ren (rixN ix S.own.length)) (hargs' : args' = SV.renL (rixN ix S.own.length) args) (hac : S.accs.Perm (accs ++ rest))
    (hn : ix.Nodup) (hlen : own.length = ix.length) (hown : ∀ (p : Nat) (k : Blk), own[p]? = some k → ∃ i, ix[p]? = some i ∧ S.own[i]? = some (k.ren (rixN ix S.own.length)) ∧ k.wf ix.length = true)
    (hrs : ∀ p ∈ rs, p ∈ S.reps) (hargs : SV.wfL ix.length args = true) (hcl : cl.wf ix.length = true)
    (k : ∀ o s', R o s' → o.wf s'.own.length = true → (∀ q ∈ s'.own, q.wf s'.own.length = true) → ∃ kept new, s'.own = kept ++ new ∧ kept.map Blk.mut = own.map Blk.mut ∧
      K (o.ren (rixN ix S.own.length)) ⟨setAll S.own ix (kept.map (Blk.ren (rixN ix S.own.length))) ++ new.map (Blk.ren (rixN ix S.own.length)), s'.accs ++ rest, S.reps ++ s'.reps⟩) : Meets P cl' args' S K := by
  subst hcl' hargs'
  intro J ℓ w hG hJ
  let r := rixN ix S.own.length
  let bl : Acc → List Nat := fun a => accBlk a.v
  let ℓs : List Base := ix.map (fun i => ℓ.getD i default)
  have hℓslen : ℓs.length = ix.length := by simp [ℓs]
  have hixlt : ∀ (p i : Nat), ix[p]? = some i → i < S.own.length := by
    intro p i hp
    have hp' : p < own.length := by rw [hlen]; exact (List.getElem?_eq_some_iff.1 hp).1
    obtain ⟨i', h1, h2, _⟩ := hown p own[p] (List.getElem?_eq_getElem hp')
    rw [hp] at h1
    cases h1
    exact (List.getElem?_eq_some_iff.1 h2).1
  have rlow : ∀ (p i : Nat), ix[p]? = some i → r p = i := by
    intro p i hp
    have := (List.getElem?_eq_some_iff.1 hp)
    simp only [r, rixN, this.1, if_true, List.getD, hp, Option.getD_some]
  have hr : ∀ i, i < ix.length → ℓ.getD (r i) default = ℓs.getD i default := by
    intro i hi
    rw [rlow i _ (List.getElem?_eq_getElem hi)]
    simp [ℓs, List.getD, List.getElem?_map, List.getElem?_eq_getElem hi]
  have hℓs : ∀ (p : Nat) (b : Base), ℓs[p]? = some b → ∃ i, ix[p]? = some i ∧ ℓ[i]? = some b := by
    intro p b hp
    simp only [ℓs, List.getElem?_map, Option.map_eq_some_iff] at hp
    obtain ⟨i, hi, rfl⟩ := hp
    have hlt : i < ℓ.length := by rw [hG.len]; exact hixlt p i hi
    exact ⟨i, hi, by simp [List.getD, List.getElem?_eq_getElem hlt]⟩
  have hmem : ∀ b, b ∈ mutL ℓs own → b ∈ mutL ℓ S.own := by
    intro b hb
    obtain ⟨p, b', q, h1, h2, h3, h4⟩ := mem_mutL.1 hb
    obtain ⟨i, h5, h6⟩ := hℓs p b' h1
    obtain ⟨i', h7, h8, _⟩ := hown p q h2
    rw [h5] at h7
    cases h7
    exact mem_mutL.2 ⟨i, b', _, h6, h8, by rw [Blk.ren_mut]; exact h3, h4⟩
  -- the blocks that may be written: A own ones, C of the slices that are handed in, Rr of the others
  have hnS0 := hG.nodup
  simp only [mutS] at hnS0
  have hperm := flatMap_perm bl hac
  have hnS : (mutL ℓ S.own ++ (accs.flatMap bl ++ rest.flatMap bl)).Nodup := by
    rw [← List.flatMap_append]
    exact (hperm.append_left _).nodup_iff.1 hnS0
  rw [List.nodup_append, List.nodup_append] at hnS
  obtain ⟨hnA, ⟨hnC, hnR, hCR⟩, hACR⟩ := hnS
  have hAC : ∀ x, x ∈ mutL ℓ S.own → x ∈ accs.flatMap bl → False := fun x h1 h2 => hACR x h1 x (List.mem_append.2 (.inl h2)) rfl
  have hAR : ∀ x, x ∈ mutL ℓ S.own → x ∈ rest.flatMap bl → False := fun x h1 h2 => hACR x h1 x (List.mem_append.2 (.inr h2)) rfl
  have hCR' : ∀ x, x ∈ accs.flatMap bl → x ∈ rest.flatMap bl → False := fun x h1 h2 => hCR x h1 x h2 rfl
  have memS : ∀ x, x ∈ mutS ℓ S ↔ x ∈ mutL ℓ S.own ∨ x ∈ accs.flatMap bl ∨ x ∈ rest.flatMap bl := by
    intro x
    simp only [mutS]
    rw [List.mem_append, hperm.mem_iff, List.flatMap_append, List.mem_append]
  have hnd : (mutL ℓs own).Nodup := by
    refine mutL_nodup ?_
    intro p q b b' k1 k2 h1 h2 h3 h4 h5 h6 h7
    obtain ⟨i, e1, e2⟩ := hℓs p b h1
    obtain ⟨j, e3, e4⟩ := hℓs q b' h4
    obtain ⟨i', e5, e6, _⟩ := hown p k1 h2
    obtain ⟨j', e7, e8, _⟩ := hown q k2 h5
    rw [e1] at e5; cases e5
    rw [e3] at e7; cases e7
    have := mutL_uniq hnA i j b b' _ _ e2 e6 (by rw [Blk.ren_mut]; exact h3) e4 e8 (by rw [Blk.ren_mut]; exact h6) h7
    subst this
    have hp1 := (List.getElem?_eq_some_iff.1 e1)
    have hq1 := (List.getElem?_eq_some_iff.1 e3)
    exact (List.getElem_inj hn).1 (hp1.2.trans hq1.2.symm)
  have mems : ∀ x, x ∈ mutS ℓs ⟨own, accs, rs⟩ ↔ x ∈ mutL ℓs own ∨ x ∈ accs.flatMap bl := by
    intro x; simp only [mutS, List.mem_append]; rfl
  have hmemS : ∀ b, b ∈ mutS ℓs ⟨own, accs, rs⟩ → b ∈ mutS ℓ S := fun b hb => by
    rcases (mems b).1 hb with h1 | h1
    · exact (memS b).2 (.inl (hmem b h1))
    · exact (memS b).2 (.inr (.inl h1))
  let Js : Nat → Prop := fun b => J b ∧ (b ∈ mutS ℓ S → b ∈ mutS ℓs ⟨own, accs, rs⟩)
  have hJin : ∀ b, Jx J (mutS ℓ S) b → Jx Js (mutS ℓs ⟨own, accs, rs⟩) b := by
    rintro b ⟨h1, h2⟩
    exact ⟨⟨h1, fun hb => (h2 hb).elim⟩, fun hb => h2 (hmemS b hb)⟩
  have hG0 : Good Js ℓs ⟨own, accs, rs⟩ w := by
    refine ⟨by simp [ℓs, hlen], ?_, fun b hb => hG.lt b (hmemS b hb), fun b hb => ⟨hG.memJ b (hmemS b hb), fun _ => hb⟩, ?_, ?_, ?_, ?_⟩
    · simp only [mutS]
      rw [List.nodup_append]
      exact ⟨hnd, hnC, fun x hx y hy e => hAC x (hmem x hx) (e ▸ hy)⟩
    · intro q hq
      obtain ⟨p, hp⟩ := List.getElem?_of_mem hq
      rw [hlen]
      exact (hown p q hp).choose_spec.2.2
    · intro p b q hb hq
      obtain ⟨i, e1, e2⟩ := hℓs p b hb
      obtain ⟨i', e3, e4, e5⟩ := hown p q hq
      rw [e1] at e3; cases e3
      exact (hG.own i b _ e2 e4).unren hr e5 hJin
    · intro ac hac'
      exact (hG.accs ac (hac.mem_iff.2 (List.mem_append.2 (.inl hac')))).keep (fun x _ hj => ⟨hJin x hj, rfl⟩) (fun _ _ _ => rfl)
    · intro p hp
      exact (hG.reps p (hrs p hp)).map (fun b _ hb => ⟨hJin b hb, rfl⟩)
  have hJ0 : Fresh Js w := fun b hb => ⟨hJ b hb, fun hm => by have := hG.lt b hm; omega⟩
  obtain ⟨nx, h1, h2⟩ := h Js ℓs w hG0 hJ0
  refine ⟨nx, by rw [cal_sem_ren hr args cl hargs hcl]; exact h1, h2.mono ?_⟩
  rintro e w' ⟨ℓ', o, s', he, hwf, hpre, hx, hG', hf, hR⟩
  obtain ⟨kept, new, hs', hmut, hK⟩ := k o s' hR hwf hG'.wf
  obtain ⟨ℓn, rfl⟩ := hpre
  have hklen : kept.length = ix.length := by have := congrArg List.length hmut; simpa [hlen] using this
  have hnlen : ℓn.length = new.length := by
    have := hG'.len
    simp only [hs', List.length_append, hℓslen, hklen] at this
    omega
  have hslen : s'.own.length = ix.length + new.length := by rw [hs', List.length_append, hklen]
  -- what may be written behind the call
  have hM' : mutS (ℓs ++ ℓn) s' = (mutL ℓs own ++ mutL ℓn new) ++ s'.accs.flatMap bl := by
    simp only [mutS]
    rw [hs', mutL_append (by rw [hℓslen, hklen]), mutL_congr hmut]
  have hnM := hG'.nodup
  rw [hM', List.nodup_append, List.nodup_append] at hnM
  obtain ⟨⟨_, hnB, hsB⟩, hnC', hsBC⟩ := hnM
  have memM : ∀ x, x ∈ mutS (ℓs ++ ℓn) s' ↔ x ∈ mutL ℓs own ∨ x ∈ mutL ℓn new ∨ x ∈ s'.accs.flatMap bl := by
    intro x; rw [hM', List.mem_append, List.mem_append, or_assoc]
  -- what is new, is new
  have hnew : ∀ x, x ∈ mutL ℓn new ∨ x ∈ s'.accs.flatMap bl → x ∈ accs.flatMap bl ∨ w.heap.size ≤ x := by
    intro x hx'
    have hm : x ∈ mutS (ℓs ++ ℓn) s' := (memM x).2 (.inr hx')
    rcases hf x hm with h3 | h3
    · rcases (mems x).1 h3 with h4 | h4
      · exfalso
        rcases hx' with h5 | h5
        · exact hsB x h4 x h5 rfl
        · exact hsBC x (List.mem_append.2 (.inl h4)) x h5 rfl
      · exact .inl h4
    · exact .inr h3
  have hltS : ∀ x, x ∈ mutS ℓ S → x < w.heap.size := hG.lt
  have hnA' : ∀ x, x ∈ mutL ℓ S.own → x ∈ mutL ℓn new ∨ x ∈ s'.accs.flatMap bl → False := by
    intro x h3 h4
    rcases hnew x h4 with h5 | h5
    · exact hAC x h3 h5
    · have := hltS x ((memS x).2 (.inl h3)); omega
  have hnR' : ∀ x, x ∈ rest.flatMap bl → x ∈ mutL ℓn new ∨ x ∈ s'.accs.flatMap bl → False := by
    intro x h3 h4
    rcases hnew x h4 with h5 | h5
    · exact hCR' x h5 h3
    · have := hltS x ((memS x).2 (.inr (.inr h3))); omega
  let S' : St := ⟨setAll S.own ix (kept.map (Blk.ren r)) ++ new.map (Blk.ren r), s'.accs ++ rest, S.reps ++ s'.reps⟩
  have hflag : ∀ (p i : Nat) (q : Blk), ix[p]? = some i → (kept.map (Blk.ren r))[p]? = some q → ∃ q', S.own[i]? = some q' ∧ q'.mut = q.mut := by
    intro p i q hp hq
    simp only [List.getElem?_map, Option.map_eq_some_iff] at hq
    obtain ⟨q0, hq0, rfl⟩ := hq
    have hp' : p < own.length := by rw [hlen]; exact (List.getElem?_eq_some_iff.1 hp).1
    obtain ⟨i', e1, e2, _⟩ := hown p own[p] (List.getElem?_eq_getElem hp')
    rw [hp] at e1; cases e1
    refine ⟨_, e2, ?_⟩
    rw [Blk.ren_mut, Blk.ren_mut]
    have := congrArg (fun l => l[p]?) hmut
    simp only [List.getElem?_map, hq0, List.getElem?_eq_getElem hp', Option.map_some, Option.some.injEq] at this
    exact this.symm
  have hmutnew : mutL ℓn (new.map (Blk.ren r)) = mutL ℓn new := by
    refine mutL_congr ?_
    simp [Blk.ren_mut]
  have hMf : mutS (ℓ ++ ℓn) S' = (mutL ℓ S.own ++ mutL ℓn new) ++ (s'.accs.flatMap bl ++ rest.flatMap bl) := by
    simp only [mutS, S']
    rw [mutL_append (by rw [setAll_length]; exact hG.len), mutL_congr (setAll_mut ix _ S.own hflag hn), hmutnew, List.flatMap_append]
  have memF : ∀ x, x ∈ mutS (ℓ ++ ℓn) S' ↔ x ∈ mutL ℓ S.own ∨ x ∈ mutL ℓn new ∨ x ∈ s'.accs.flatMap bl ∨ x ∈ rest.flatMap bl := by
    intro x; rw [hMf]; simp only [List.mem_append, or_assoc]
  have hfresh : ∀ x, x ∈ mutS (ℓ ++ ℓn) S' → x ∈ mutS ℓ S ∨ w.heap.size ≤ x := by
    intro x hx'
    rcases (memF x).1 hx' with h3 | h3 | h3 | h3
    · exact .inl ((memS x).2 (.inl h3))
    · exact (hnew x (.inl h3)).imp (fun h4 => (memS x).2 (.inr (.inl h4))) id
    · exact (hnew x (.inr h3)).imp (fun h4 => (memS x).2 (.inr (.inl h4))) id
    · exact .inl ((memS x).2 (.inr (.inr h3)))
  have hkeepJ : ∀ x, x < w.heap.size → Jx J (mutS ℓ S) x → Jx J (mutS (ℓ ++ ℓn) S') x ∧ w'.heap[x]? = w.heap[x]? :=
    fun x hx' hj => ⟨⟨hj.1, fun hm => by rcases hfresh x hm with h3 | h3; exact hj.2 h3; omega⟩, hx.block x hx' (fun hm => hj.2 (hmemS x hm))⟩
  have hJout : ∀ x, Jx Js (mutS (ℓs ++ ℓn) s') x → Jx J (mutS (ℓ ++ ℓn) S') x := by
    rintro x ⟨⟨h3, h4⟩, h5⟩
    refine ⟨h3, fun hm => ?_⟩
    rcases (memF x).1 hm with h6 | h6 | h6 | h6
    · rcases (mems x).1 (h4 ((memS x).2 (.inl h6))) with h7 | h7
      · exact h5 ((memM x).2 (.inl h7))
      · exact hAC x h6 h7
    · exact h5 ((memM x).2 (.inr (.inl h6)))
    · exact h5 ((memM x).2 (.inr (.inr h6)))
    · rcases (mems x).1 (h4 ((memS x).2 (.inr (.inr h6)))) with h7 | h7
      · exact hAR x (hmem x h7) h6
      · exact hCR' x h7 h6
  -- the new numbers
  have hr' : ∀ i, i < s'.own.length → (ℓ ++ ℓn).getD (r i) default = (ℓs ++ ℓn).getD i default := by
    intro i hi
    rcases Nat.lt_or_ge i ix.length with h3 | h3
    · have hlt : r i < ℓ.length := by rw [rlow i _ (List.getElem?_eq_getElem h3), hG.len]; exact hixlt i _ (List.getElem?_eq_getElem h3)
      rw [getD_append_left hlt, getD_append_left (by rw [hℓslen]; exact h3)]
      exact hr i h3
    · have e1 : r i = ℓ.length + (i - ix.length) := by simp [r, rixN, Nat.not_lt.2 h3, hG.len]
      rw [e1]
      simp only [List.getD]
      rw [List.getElem?_append_right (by omega), List.getElem?_append_right (by rw [hℓslen]; exact h3), hℓslen, Nat.add_sub_cancel_left]
  have hS'len : S'.own.length = S.own.length + new.length := by simp [S', setAll_length]
  have hrlt : ∀ i, i < s'.own.length → r i < S'.own.length := by
    intro i hi
    rw [hS'len]
    rcases Nat.lt_or_ge i ix.length with h3 | h3
    · have := hixlt i _ (List.getElem?_eq_getElem h3)
      rw [rlow i _ (List.getElem?_eq_getElem h3)]; omega
    · have e1 : r i = S.own.length + (i - ix.length) := by simp [r, rixN, Nat.not_lt.2 h3]
      rw [e1]; rw [hslen] at hi; omega
  have hℓold : ∀ i, i < S.own.length → (ℓ ++ ℓn).getD i default = ℓ.getD i default := fun i hi => getD_append_left (by rw [hG.len]; exact hi)
  have hsub : ∀ x, x ∈ mutS ℓs ⟨own, accs, rs⟩ → x < w.heap.size → x ∈ mutS ℓ S := fun x hm _ => hmemS x hm
  refine ⟨ℓ ++ ℓn, o.ren r, S', ?_, ?_, List.prefix_append _ _, hx.mono hsub, ?_, hfresh, hK⟩
  · rw [he]
    cases o with
    | ret x => simp only [Out.ren, Out.ending]; rw [SV.den_ren hr' x hwf]
    | pan x => simp only [Out.ren, Out.ending]; rw [SV.den_ren hr' x hwf]
  · cases o with
    | ret x => exact SV.wf_ren hrlt x hwf
    | pan x => exact SV.wf_ren hrlt x hwf
  · constructor
    · rw [hS'len, List.length_append, hG.len, hnlen]
    · rw [hMf, List.nodup_append, List.nodup_append, List.nodup_append]
      refine ⟨⟨hnA, hnB, fun x h3 y h4 e => hnA' x h3 (.inl (e ▸ h4))⟩, ⟨hnC', hnR, fun x h3 y h4 e => hnR' x (e ▸ h4) (.inr h3)⟩, ?_⟩
      intro x h3 y h4 e
      subst e
      rcases List.mem_append.1 h3 with h5 | h5
      · rcases List.mem_append.1 h4 with h6 | h6
        · exact hnA' x h5 (.inr h6)
        · exact hAR x h5 h6
      · rcases List.mem_append.1 h4 with h6 | h6
        · exact hsBC x (List.mem_append.2 (.inr h5)) x h6 rfl
        · exact hnR' x h6 (.inl h5)
    · intro x hx'
      rcases (memF x).1 hx' with h3 | h3 | h3 | h3
      · exact Nat.lt_of_lt_of_le (hltS x ((memS x).2 (.inl h3))) hx.size
      · exact hG'.lt x ((memM x).2 (.inr (.inl h3)))
      · exact hG'.lt x ((memM x).2 (.inr (.inr h3)))
      · exact Nat.lt_of_lt_of_le (hltS x ((memS x).2 (.inr (.inr h3)))) hx.size
    · intro x hx'
      rcases (memF x).1 hx' with h3 | h3 | h3 | h3
      · exact hG.memJ x ((memS x).2 (.inl h3))
      · exact (hG'.memJ x ((memM x).2 (.inr (.inl h3)))).1
      · exact (hG'.memJ x ((memM x).2 (.inr (.inr h3)))).1
      · exact hG.memJ x ((memS x).2 (.inr (.inr h3)))
    · intro q hq
      rcases List.mem_append.1 hq with hq | hq
      · obtain ⟨i, hi⟩ := List.getElem?_of_mem hq
        by_cases hix : i ∈ ix
        · obtain ⟨p, hp⟩ := List.getElem?_of_mem hix
          have hp' : p < kept.length := by rw [hklen]; exact (List.getElem?_eq_some_iff.1 hp).1
          rw [setAll_at ix _ S.own p i ((kept[p]).ren r) hn hp (by simp [List.getElem?_eq_getElem hp']) (hixlt p i hp)] at hi
          cases hi
          exact Blk.wf_ren hrlt (hG'.wf _ (by rw [hs']; exact List.mem_append.2 (.inl (List.getElem_mem hp'))))
        · rw [setAll_other ix _ _ i hix] at hi
          exact Blk.wf_mono (by rw [hS'len]; omega) (wf_of_mem hG.wf hi)
      · obtain ⟨q0, hq0, rfl⟩ := List.mem_map.1 hq
        exact Blk.wf_ren hrlt (hG'.wf _ (by rw [hs']; exact List.mem_append.2 (.inr hq0)))
    · intro i b q hb hq
      simp only [S'] at hq
      rcases Nat.lt_or_ge i S.own.length with hlt | hge
      · rw [List.getElem?_append_left (by rw [hG.len]; exact hlt)] at hb
        rw [List.getElem?_append_left (by rw [setAll_length]; exact hlt)] at hq
        by_cases hix : i ∈ ix
        · obtain ⟨p, hp⟩ := List.getElem?_of_mem hix
          have hp' : p < kept.length := by rw [hklen]; exact (List.getElem?_eq_some_iff.1 hp).1
          rw [setAll_at ix _ S.own p i ((kept[p]).ren r) hn hp (by simp [List.getElem?_eq_getElem hp']) (hixlt p i hp)] at hq
          cases hq
          have hbp : (ℓs ++ ℓn)[p]? = some b := by
            rw [List.getElem?_append_left (by rw [hℓslen, ← hklen]; exact hp')]
            simp [ℓs, List.getElem?_map, hp, List.getD, hb]
          have hkp : s'.own[p]? = some kept[p] := by rw [hs', List.getElem?_append_left hp', List.getElem?_eq_getElem hp']
          exact (hG'.own p b _ hbp hkp).ren hr' (wf_of_mem hG'.wf hkp) hJout
        · rw [setAll_other ix _ _ i hix] at hq
          have h0 := hG.own i b q hb hq
          have hwq := wf_of_mem hG.wf hq
          by_cases hqm : q.mut = true
          · refine h0.keep hwq hℓold (fun x hx' hj => (hkeepJ x hx' hj).1) (fun hlt => hx.block _ hlt (fun hm => ?_))
            have hbA : b.block ∈ mutL ℓ S.own := mem_mutL.2 ⟨i, b, q, hb, hq, hqm, rfl⟩
            rcases (mems _).1 hm with hm | hm
            · obtain ⟨p, b', q', e1, e2, e3, e4⟩ := mem_mutL.1 hm
              obtain ⟨j, e5, e6⟩ := hℓs p b' e1
              obtain ⟨j', e7, e8, _⟩ := hown p q' e2
              rw [e5] at e7; cases e7
              have := mutL_uniq hnA i j b b' _ _ hb hq hqm e6 e8 (by rw [Blk.ren_mut]; exact e3) e4.symm
              subst this
              exact hix (List.mem_of_getElem? e5)
            · exact hAC _ hbA hm
          · cases q with
            | cells T cs => simp [Blk.mut] at hqm
            | obj oo => simp [Blk.mut] at hqm
            | lp x => simp [Blk.mut] at hqm
            | iter i s n p => simp [Blk.mut] at hqm
            | imm cs =>
              have hj0 := h0
              simp only [BlkOK] at hj0
              exact h0.keep hwq hℓold (fun x hx' hj => (hkeepJ x hx' hj).1) (fun hlt => (hkeepJ _ hlt hj0.1).2)
            | dead => trivial
      · rw [List.getElem?_append_right (by rw [hG.len]; exact hge)] at hb
        rw [List.getElem?_append_right (by rw [setAll_length]; exact hge)] at hq
        rw [setAll_length] at hq
        rw [hG.len] at hb
        simp only [List.getElem?_map, Option.map_eq_some_iff] at hq
        obtain ⟨q0, hq0, rfl⟩ := hq
        have hbp : (ℓs ++ ℓn)[ix.length + (i - S.own.length)]? = some b := by
          rw [List.getElem?_append_right (by rw [hℓslen]; omega), hℓslen, Nat.add_sub_cancel_left]; exact hb
        have hkp : s'.own[ix.length + (i - S.own.length)]? = some q0 := by
          rw [hs', List.getElem?_append_right (by rw [hklen]; omega), hklen, Nat.add_sub_cancel_left]; exact hq0
        exact (hG'.own _ b _ hbp hkp).ren hr' (wf_of_mem hG'.wf hkp) hJout
    · intro ac hac'
      rcases List.mem_append.1 hac' with h3 | h3
      · exact (hG'.accs ac h3).keep (fun x _ hj => ⟨hJout x hj, rfl⟩) (fun _ _ _ => rfl)
      · refine (hG.accs ac (hac.mem_iff.2 (List.mem_append.2 (.inr h3)))).keep hkeepJ (fun x hxa hlt => hx.block x hlt (fun hm => ?_))
        have hxR : x ∈ rest.flatMap bl := List.mem_flatMap.2 ⟨ac, h3, hxa⟩
        rcases (mems x).1 hm with h4 | h4
        · exact hAR x (hmem x h4) hxR
        · exact hCR' x h4 hxR
    · intro p hp
      rcases List.mem_append.1 hp with h3 | h3
      · exact (hG.reps p h3).map hkeepJ
      · exact (hG'.reps p h3).map (fun x _ hj => ⟨hJout x hj, rfl⟩)

mutual
theorem SV.ren_congr {n : Nat} {r r' : Nat → Nat} (h : ∀ i, i < n → r i = r' i) : ∀ (s : SV), s.wf n = true → s.ren r = s.ren r'
  | .v _, _ => rfl
  | .loc i off, hw => by simp only [SV.wf, blt_true] at hw; simp only [SV.ren, h i hw]
  | .fn f first caps, hw => by
    simp only [SV.wf, Bool.and_eq_true] at hw
    simp only [SV.ren, SV.renL_congr h first hw.1, SV.renL_congr h caps hw.2]
  | .agg cs, hw => by simp only [SV.wf] at hw; simp only [SV.ren, SV.renL_congr h cs hw]
  | .tup xs, hw => by simp only [SV.wf] at hw; simp only [SV.ren, SV.renL_congr h xs hw]
  | .mp i, hw => by simp only [SV.wf, blt_true] at hw; simp only [SV.ren, h i hw]
  | .ifc t s, hw => by simp only [SV.wf] at hw; simp only [SV.ren, SV.ren_congr h s hw]
  | .yld i, hw => by simp only [SV.wf, blt_true] at hw; simp only [SV.ren, h i hw]
theorem SV.renL_congr {n : Nat} {r r' : Nat → Nat} (h : ∀ i, i < n → r i = r' i) : ∀ (l : List SV), SV.wfL n l = true → SV.renL r l = SV.renL r' l
  | [], _ => rfl
  | s :: ss, hw => by
    simp only [SV.wfL, Bool.and_eq_true] at hw
    simp only [SV.renL, SV.ren_congr h s hw.1, SV.renL_congr h ss hw.2]
 end

theorem envRen_congr {n : Nat} {r r' : Nat → Nat} (h : ∀ i, i < n → r i = r' i) : ∀ {env : Env}, envWf n env = true → envRen r env = envRen r' env
  | [], _ => rfl
  | (t, s) :: e, hw => by
    simp only [envWf] at hw
    split at hw
    · rename_i hs; simp only [envRen, SV.ren_congr h s hs, envRen_congr h hw]
    · cases hw

theorem Blk.ren_congr {n : Nat} {r r' : Nat → Nat} (h : ∀ i, i < n → r i = r' i) {k : Blk} (hw : k.wf n = true) : k.ren r = k.ren r' := by
  cases k <;> simp only [Blk.wf, Blk.ren] at hw ⊢
  · rw [SV.renL_congr h _ hw]
  · rw [SV.renL_congr h _ hw]
  · rw [envRen_congr h hw]
  · simp only [blt_true] at hw; rw [h _ hw]

theorem rixN_low (ix : List Nat) (n : Nat) : ∀ i, i < ix.length → rix ix i = rixN ix n i := fun i hi => by simp [rixN, rix, hi]

/-- At a call that is handed the own blocks ix: its contract is over these alone (numbered anew); it hands back these. -/
theorem Meets.frame {P : Program} {cl : Cal} {args : List SV} {own : List Blk} {rs : List (Value × D)} {R : Out → St → Prop} {S : St} {K : Out → St → Prop} {cl' : Cal} {args' : List SV} (h : Meets P cl args ⟨own, [], rs⟩ R) (ix : List Nat)
    (hcl' : cl' = cl.ren (rix ix)) (hargs' : args' = SV.renL (rix ix) args)
    (hn : ix.Nodup) (hlen : own.length = ix.length) (hown : ∀ (p : Nat) (k : Blk), own[p]? = some k → ∃ i, ix[p]? = some i ∧ S.own[i]? = some (k.ren (rix ix)) ∧ k.wf ix.length = true)
    (hrs : ∀ p ∈ rs, p ∈ S.reps) (hargs : SV.wfL ix.length args = true) (hcl : cl.wf ix.length = true)
    (k : ∀ o s', R o s' → s'.accs = [] ∧ s'.own.map Blk.mut = own.map Blk.mut ∧ ∃ ks, s'.own.map (Blk.ren (rix ix)) = ks ∧ forceL (setAll S.own ix ks) (fun own => putOwn S own (fun S1 => addReps S1 s'.reps (fun S' => K (o.ren (rix ix)) S')))) : Meets P cl' args' S K := by
  simp only [forceL_eq, putOwn_eq, addReps_eq] at k
  have hc := rixN_low ix S.own.length
  refine Meets.frameG (rest := S.accs) h ix ?_ ?_ (List.Perm.refl _) hn hlen ?_ hrs hargs hcl ?_
  · rw [hcl']
    cases cl with
    | val F => simp only [Cal.ren]; rw [SV.ren_congr hc F hcl]
    | meth x name => simp only [Cal.ren]; rw [SV.ren_congr hc x hcl]
  · rw [hargs', SV.renL_congr hc args hargs]
  · intro p q hp
    obtain ⟨i, h1, h2, h3⟩ := hown p q hp
    exact ⟨i, h1, by rw [← Blk.ren_congr hc h3]; exact h2, h3⟩
  · intro o s' hR hwo hws
    obtain ⟨ha, hmut, ks, hks, hK⟩ := k o s' hR
    have hsl : s'.own.length = ix.length := by have := congrArg List.length hmut; simpa [hlen] using this
    refine ⟨s'.own, [], by simp, hmut, ?_⟩
    have e1 : s'.own.map (Blk.ren (rixN ix S.own.length)) = ks := by
      rw [← hks]
      refine List.map_congr_left (fun q hq => ?_)
      exact (Blk.ren_congr hc (by rw [← hsl]; exact hws q hq)).symm
    have e2 : o.ren (rixN ix S.own.length) = o.ren (rix ix) := by
      cases o with
      | ret x => simp only [Out.ren]; rw [SV.ren_congr hc x (by rw [← hsl]; exact hwo)]
      | pan x => simp only [Out.ren]; rw [SV.ren_congr hc x (by rw [← hsl]; exact hwo)]
    rw [e1, e2, ha]
    simpa using hK

end Go.Tr
end
