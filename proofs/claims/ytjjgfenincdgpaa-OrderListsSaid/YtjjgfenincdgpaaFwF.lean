/- One operation of the framework is sound (vcRun_sound). Condition: the state describes the world (Inv). -/
import Derived.Test.YtjjgfenincdgpaaFwE
namespace Go.Tr
open Go
set_option linter.unusedSimpArgs false

def Holds (a : Act) (l : Atoms) : Prop := ∀ p ∈ l, a.tmps.getD p.1 undef = .bool p.2

def EnvOK (ℓ : List Base) (n : Nat) (env : Env) (a : Act) : Prop := ∀ t s, find env t = some s → s.wf n = true ∧ a.tmps.getD t undef = s.den ℓ

def GenOK (ℓ : List Base) (n : Nat) (gen : Gen) (a : Act) : Prop := ∀ t s tags, gfind gen t = some (s, tags) → (Holds a tags → s.wf n = true ∧ a.tmps.getD t undef = s.den ℓ) ∧ (¬ Holds a tags → a.tmps.getD t undef = undef)

theorem beqB_eq {a b : Bool} (h : beqB a b = true) : a = b := by cases a <;> cases b <;> simp_all [beqB]
theorem beqB_ne {a b : Bool} (h : beqB a b = false) : a = !b := by cases a <;> cases b <;> simp_all [beqB]

theorem memAtom_mem {g : Nat} {b : Bool} : ∀ {l : Atoms}, memAtom g b l = true → (g, b) ∈ l
  | [], h => by simp [memAtom] at h
  | (h', c) :: r, h => by
    simp only [memAtom] at h
    split at h
    · rename_i hb
      simp only [Bool.and_eq_true] at hb
      have h1 := Nat.eq_of_beq_eq_true hb.1
      have h2 := beqB_eq hb.2
      subst h1 h2
      simp
    · exact List.mem_cons_of_mem _ (memAtom_mem h)

theorem subAtoms_holds {a : Act} : ∀ {l l' : Atoms}, subAtoms l l' = true → Holds a l' → Holds a l
  | [], _, _, _ => by simp [Holds]
  | (g, b) :: r, l', h, hh => by
    simp only [subAtoms] at h
    split at h
    · rename_i hm
      have := hh _ (memAtom_mem hm)
      have ih := subAtoms_holds h hh
      intro p hp
      rcases List.mem_cons.1 hp with h1 | h1
      · subst h1; exact this
      · exact ih p h1
    · cases h

theorem Holds.append {a : Act} {l l' : Atoms} (h : Holds a l) (h' : Holds a l') : Holds a (l ++ l') := by
  intro p hp
  rcases List.mem_append.1 hp with h1 | h1
  · exact h p h1
  · exact h' p h1

theorem knownOf_mem {g : Nat} {b : Bool} : ∀ {l : Atoms}, knownOf l g = some b → (g, b) ∈ l
  | [], h => by simp [knownOf] at h
  | (h', c) :: r, h => by
    simp only [knownOf] at h
    split at h
    · rename_i hb
      have h1 := Nat.eq_of_beq_eq_true hb
      cases h
      subst h1
      simp
    · exact List.mem_cons_of_mem _ (knownOf_mem h)

theorem constO_spec (ℓ : List Base) (n : Nat) {v : Value} {s : SV} (h : constO v = some s) : s.wf n = true ∧ s.den ℓ = v := by
  cases v with
  | agg cs => simp only [constO, forceL_eq, Option.some.injEq] at h; subst h; exact ⟨by simp only [SV.wf, wfL_map_v], by simp only [SV.den, denL_map_v]⟩
  | _ => simp only [constO, Option.some.injEq] at h; subst h; exact ⟨rfl, rfl⟩

/-- What is handed through a function: the world and the blocks that it was called with; rx: in a round, the own block that is the loop's record. -/
structure Cx where
  J : Nat → Prop
  ℓ0 : List Base
  S0 : St
  w0 : World
  N : Nat
  rx : Option Nat

/-- The loop whose round the code is in. -/
def Cx.ro (c : Cx) : Option Nat :=
  match c.rx with
  | none => none
  | some i => some (c.ℓ0.getD i default).block

def markD (r : Nat) : Deferred := { target := .collected r, args := #[] }

def marksOf : List Deferred → List Nat
  | [] => []
  | d :: ds => match d.target with
    | .collected r => r :: marksOf ds
    | _ => marksOf ds

theorem marksOf_map : ∀ (rs : List Nat), marksOf (rs.map markD) = rs
  | [] => rfl
  | r :: rs => by simp only [List.map_cons, marksOf, markD]; exact congrArg (r :: ·) (marksOf_map rs)

/-- Nothing is deferred but the marks of loops, whose blocks are empty. -/
structure Marks (w0 : World) (ds : List Deferred) (w : World) : Prop where
  eq : ds = (marksOf ds).map markD
  nodup : (marksOf ds).Nodup
  blk : ∀ r ∈ marksOf ds, w0.heap.size ≤ r ∧ w.heap[r]? = some (.deferred (some []))

/-- The blocks that may be used: those of the marks may not. -/
def Cx.Ja (c : Cx) (a : Act) : Nat → Prop := fun b => c.J b ∧ b ∉ marksOf a.defers

structure Inv (c : Cx) (ℓ : List Base) (kn : Atoms) (gen : Gen) (env : Env) (S : St) (a : Act) (w : World) : Prop where
  size : a.tmps.size = c.N
  defers : Marks c.w0 a.defers w
  env : EnvOK ℓ S.own.length env a
  gen : GenOK ℓ S.own.length gen a
  kn : Holds a kn
  good : Good (c.Ja a) ℓ S w
  fresh0 : Fresh c.J c.w0
  pre : c.ℓ0 <+: ℓ
  ext : Ext (mutS c.ℓ0 c.S0) c.w0 w
  fresh : ∀ b ∈ mutS ℓ S, b ∈ mutS c.ℓ0 c.S0 ∨ c.w0.heap.size ≤ b

theorem Inv.freshJ {c : Cx} {ℓ : List Base} {kn : Atoms} {gen : Gen} {env : Env} {S : St} {a : Act} {w : World} (h : Inv c ℓ kn gen env S a w) : Fresh (c.Ja a) w :=
  fun b hb => ⟨h.fresh0 b (Nat.le_trans h.ext.size hb), fun hm => by have := lt_of_get (h.defers.blk b hm).2; omega⟩

section
variable {P : Program} {tt : Tab} {c : Cx} {ℓ : List Base} {kn al : Atoms} {gen : Gen} {env : Env} {S : St} {a : Act} {w : World}

theorem getter_sound (h : Inv c ℓ kn gen env S a w) (hal : Holds a al) {ex : Atoms} (hex : Holds a ex) {x : Operand} {s : SV} (hg : getter gen env al ex x = some s) : s.wf S.own.length = true ∧ a.eval x = s.den ℓ := by
  cases x with
  | tmp t =>
    simp only [getter] at hg
    split at hg
    · rename_i s' tags hf
      split at hg
      · rename_i hs
        cases hg
        have := h.gen t _ _ hf
        exact this.1 (subAtoms_holds hs (hex.append hal))
      · cases hg
    · exact h.env t s hg
  | const v =>
    simp only [getter] at hg
    have := constO_spec ℓ S.own.length hg
    exact ⟨this.1, this.2.symm⟩
  | global g =>
    simp only [getter, Option.some.injEq] at hg
    subst hg
    exact ⟨rfl, rfl⟩
  | func f =>
    simp only [getter, Option.some.injEq] at hg
    subst hg
    exact ⟨rfl, rfl⟩

theorem own_at {J : Nat → Prop} (h : Good J ℓ S w) {i : Nat} {k : Blk} (hk : S.own[i]? = some k) : ∃ b, ℓ[i]? = some b ∧ BlkOK (Jx J (mutS ℓ S)) ℓ w b k := by
  have hlt : i < ℓ.length := by
    rw [h.len]
    rcases Nat.lt_or_ge i S.own.length with h1 | h1
    · exact h1
    · rw [List.getElem?_eq_none h1] at hk; cases hk
  exact ⟨ℓ[i], List.getElem?_eq_getElem hlt, h.own i _ k (List.getElem?_eq_getElem hlt) hk⟩

theorem Good.cellsAt {J : Nat → Prop} (h : Good J ℓ S w) {i : Nat} {cs : List SV} (hk : cellsIn (nth S.own i) = some cs) :
    SV.wfL S.own.length cs = true ∧ ∃ b, ℓ[i]? = some b ∧ ∀ j v, (SV.denL ℓ cs)[j]? = some v → w.cell? ⟨b.block, b.off + j, none⟩ = some v := by
  cases hn : nth S.own i with
  | none => rw [hn] at hk; simp [cellsIn] at hk
  | some k =>
    rw [hn] at hk
    have hk' : S.own[i]? = some k := by rw [← nth_eq]; exact hn
    obtain ⟨b, hb, hok⟩ := own_at h hk'
    have := cells_of_ok (wf_of_mem h.wf hk') hok hk
    exact ⟨this.1, b, hb, this.2⟩

theorem Inv.pctx (hT : TTOK P tt) (h : Inv c ℓ kn gen env S a w) (hal : Holds a al) : PCtx P tt (Jx (c.Ja a) (mutS ℓ S)) ℓ S.own S.own.length a.eval kn (getter gen env al) w where
  hT := hT
  const := fun _ => rfl
  get0 := fun x s hs => getter_sound h hal (by simp [Holds]) hs
  get1 := fun g b x s hs hb => getter_sound h hal (by intro p hp; simp at hp; subst hp; exact hb) hs
  hkn := fun g b hk => h.kn _ (knownOf_mem hk)
  own := fun i cs hk => h.good.cellsAt hk

/-- What is known behind an operation. -/
structure Stepped (J : Nat → Prop) (ℓ : List Base) (S : St) (w : World) (ℓ' : List Base) (S' : St) (w' : World) : Prop where
  pre : ℓ <+: ℓ'
  ext : Ext (mutS ℓ S) w w'
  good : Good J ℓ' S' w'
  fresh : ∀ b ∈ mutS ℓ' S', b ∈ mutS ℓ S ∨ w.heap.size ≤ b

theorem Stepped.refl {J : Nat → Prop} (h : Good J ℓ S w) : Stepped J ℓ S w ℓ S w := ⟨List.prefix_refl _, Ext.refl _ _, h, fun _ hb => .inl hb⟩

theorem getAll_length {get : Getter} : ∀ {xs : List Operand} {l : List SV}, getAll get xs = some l → l.length = xs.length
  | [], l, h => by simp only [getAll, Option.some.injEq] at h; subst h; rfl
  | x :: xs, l, h => by
    simp only [getAll] at h
    split at h
    · split at h
      · rename_i ss hss
        cases h
        simp [getAll_length hss]
      · cases h
    · cases h

theorem args_eq {ρ : Operand → Value} {args : Array Operand} {l : List SV} (h : args.toList.map ρ = SV.denL ℓ l) : args.map ρ = (SV.denL ℓ l).toArray := by
  rw [← Array.toList_inj, Array.toList_map, h]

theorem getParts_sound {C : PCtx P tt (Jx (c.Ja a) (mutS ℓ S)) ℓ S.own S.own.length a.eval kn (getter gen env al) w} : ∀ (xs : List (Nat × Operand)) (l : List (Nat × SV)), getParts (getter gen env al) xs = some l → xs.map (fun (i, x) => (i, a.eval x)) = denParts ℓ l
  | [], l, h => by simp only [getParts, Option.some.injEq] at h; subst h; rfl
  | (i, x) :: xs, l, h => by
    simp only [getParts] at h
    split at h
    · rename_i s hs
      split at h
      · rename_i ss hss
        cases h
        have h1 := C.get0 _ _ hs
        have h2 := getParts_sound (C := C) xs ss hss
        simp only [List.map_cons, denParts, h1.2, h2]
      · cases h
    · cases h

theorem mapOpt_sound {C : PCtx P tt (Jx (c.Ja a) (mutS ℓ S)) ℓ S.own S.own.length a.eval kn (getter gen env al) w} {x : Option Operand} {s : Option SV} (h : mapOpt (getter gen env al []) x = some s) : x.map a.eval = denO ℓ s := by
  cases x with
  | none => simp only [mapOpt, Option.some.injEq] at h; subst h; rfl
  | some x =>
    simp only [mapOpt] at h
    split at h
    · rename_i b hb
      cases h
      simp [denO, (C.get0 _ _ hb).2]
    · cases h

/-- How an operation's answer is met. -/
def Met (c : Cx) (ℓ : List Base) (S : St) (a : Act) (w : World) (o : Oper) (K : SV → St → Prop) (next : Act → World → Prop) : Prop :=
  ∀ r ℓ' S' w', Stepped (c.Ja a) ℓ S w ℓ' S' w' → r.wf S'.own.length = true → K r S' → next (a.put o.dst (r.den ℓ')) w'
def MetP (c : Cx) (ℓ : List Base) (S : St) (a : Act) (w : World) (Kp : SV → St → Prop) (Q : Exit → Act → World → Prop) : Prop :=
  ∀ v ℓ' S' w', Stepped (c.Ja a) ℓ S w ℓ' S' w' → v.wf S'.own.length = true → Kp v S' → Q (.panic [{ v := v.den ℓ', recovered := false }]) a w'

/-- An operation's answer, met. -/
abbrev upOp (ro : Option Nat) (P : Program) (o : Oper) (a : Act) (w : World) (next : Act → World → Prop) (Q : Exit → Act → World → Prop) : Prop := o.uponIn (fen ro) 0 P a next Q ((execOp a.eval o).run P w)

theorem up_wp {ro : Option Nat} {o : Oper} {next : Act → World → Prop} {Q : Exit → Act → World → Prop} (hnd : ∀ c, o.op ≠ .defer c) (h : upOp ro P o a w next Q) : o.wpIn (fen ro) 0 P a w next Q :=
  ⟨fun _ _ => trivial, by rw [Oper.semAt_eq _ _ _ hnd]; exact h⟩

theorem wp_of_value {ro : Option Nat} {o : Oper} {next : Act → World → Prop} {Q : Exit → Act → World → Prop} {v : Value} {w' : World} (h : (execOp a.eval o).run P w = .ok (.value v) w') (hn : next (a.put o.dst v) w') : upOp ro P o a w next Q := by
  unfold upOp; rw [h]; exact hn

theorem wp_of_sem {ro : Option Nat} {o : Oper} {K : SV → St → Prop} {next : Act → World → Prop} {Q : Exit → Act → World → Prop} {m : List Base → Sem Value} (hI : Inv c ℓ kn gen env S a w) (he : execOp a.eval o = (do pure (.value (← m ℓ)) : Sem Next)) (hK : Met c ℓ S a w o K next) (h : AtSem P m S K) : upOp ro P o a w next Q := by
  obtain ⟨r, ℓ', S', w', hr, hwf, hp, hx, hg, hf, hk⟩ := h.sem (c.Ja a) ℓ w hI.good hI.freshJ
  refine wp_of_value (v := r.den ℓ') (w' := w') ?_ (hK r ℓ' S' w' ⟨hp, hx, hg, hf⟩ hwf hk)
  rw [he, Sem.run_bind, hr]; rfl

theorem wp_of_pure {ro : Option Nat} {o : Oper} {K : SV → St → Prop} {next : Act → World → Prop} {Q : Exit → Act → World → Prop} {m : List Base → Sem Value} (hI : Inv c ℓ kn gen env S a w) (he : execOp a.eval o = (do pure (.value (← m ℓ)) : Sem Next)) (hK : Met c ℓ S a w o K next) (h : AtPure P m S K) : upOp ro P o a w next Q := by
  obtain ⟨r, ℓ', S', hr, hwf, hp, hg, hf, _, hk⟩ := h.sem (c.Ja a) ℓ w hI.good hI.freshJ
  refine wp_of_value (v := r.den ℓ') (w' := w) ?_ (hK r ℓ' S' w ⟨hp, Ext.refl _ _, hg, fun b hb => .inl (hf b hb)⟩ hwf hk)
  rw [he, Sem.run_bind, hr]; rfl

theorem wp_of_semU {ro : Option Nat} {o : Oper} {K : SV → St → Prop} {next : Act → World → Prop} {Q : Exit → Act → World → Prop} {m : List Base → Sem Unit} (hI : Inv c ℓ kn gen env S a w) (he : execOp a.eval o = (do m ℓ; pure .skip : Sem Next)) (hK : Met c ℓ S a w o K next) (h : AtSem P (fun ℓ => do m ℓ; pure undef) S K) : upOp ro P o a w next Q := by
  obtain ⟨r, ℓ', S', w', hr, hwf, hp, hx, hg, hf, hk⟩ := h.sem (c.Ja a) ℓ w hI.good hI.freshJ
  simp only [Sem.run_bind, Sem.run_pure] at hr
  unfold upOp
  rw [he, Sem.run_bind]
  cases hm : (m ℓ).run P w with
  | ok u w1 =>
    rw [hm] at hr
    simp only [Result.andThen_ok, Result.ok.injEq] at hr
    obtain ⟨h1, h2⟩ := hr
    subst h2
    simp only [Result.andThen_ok, Sem.run_pure, Oper.uponIn_skip]
    rw [h1]
    exact hK r ℓ' S' w1 ⟨hp, hx, hg, hf⟩ hwf hk
  | halt x w1 => rw [hm] at hr; simp at hr

theorem wp_of_spec {ro : Option Nat} {o : Oper} {K Kp : SV → St → Prop} {next : Act → World → Prop} {Q : Exit → Act → World → Prop} {cl : Cal} {args : List SV} (hI : Inv c ℓ kn gen env S a w) (he : execOp a.eval o = cl.sem ℓ args) (hK : Met c ℓ S a w o K next) (hKp : MetP c ℓ S a w Kp Q)
    (h : Meets P cl args S (fun o S' => match o with
      | .ret r => K r S'
      | .pan v => Kp v S')) : upOp ro P o a w next Q := by
  obtain ⟨nx, hr, hc⟩ := h (c.Ja a) ℓ w hI.good hI.freshJ
  unfold upOp
  rw [he, hr]
  have fin : ∀ e w', CallPost (c.Ja a) ℓ S w (fun o S' => match o with
      | .ret r => K r S'
      | .pan v => Kp v S') e w' → (match e with
      | .returned v => next (a.put o.dst v) w'
      | .panicked chain => Q (.panic chain) a w'
      | .outgrown => LetsOut Q) := by
    rintro e w' ⟨ℓ', out, S', heq, hwf, hp, hx, hg, hf, hk⟩
    subst heq
    cases out with
    | ret r => exact hK r ℓ' S' w' ⟨hp, hx, hg, hf⟩ hwf hk
    | pan v => exact hKp v ℓ' S' w' ⟨hp, hx, hg, hf⟩ hwf hk
  cases nx with
  | enter f as =>
    rw [Oper.uponIn_enter]
    refine ⟨fun h => by simp [fen] at h, CallsIn.mono (R := _) hc ?_⟩
    intro e w' he
    have := fin e w' he
    cases e <;> exact this
  | round l f tmps assign body =>
    rw [Oper.uponIn_round]
    refine ⟨fun h => by simp [fen] at h, RoundIn.mono (R := _) hc ?_⟩
    intro e w' he
    have := fin e w' he
    cases e <;> exact this
  | _ => exact hc.elim

theorem alloc_stepped (hI : Inv c ℓ kn gen env S a w) (T : TypeId) (cs : List SV) (hcs : SV.wfL S.own.length cs = true) :
    Stepped (c.Ja a) ℓ S w (ℓ ++ [⟨w.heap.size, 0⟩]) ⟨S.own ++ [.cells T cs], S.accs, S.reps⟩ (w.alloc (.cells (SV.denL ℓ cs).toArray T (0, 0))) := by
  have hnew : (w.alloc (.cells (SV.denL ℓ cs).toArray T (0, 0))).heap[w.heap.size]? = some (.cells (SV.denL ℓ cs).toArray T (0, 0)) := by
    show (w.heap.push _)[w.heap.size]? = _
    simp
  have hold : ∀ x, x < w.heap.size → (w.alloc (.cells (SV.denL ℓ cs).toArray T (0, 0))).heap[x]? = w.heap[x]? := by
    intro x hx
    show (w.heap.push _)[x]? = _
    rw [Array.getElem?_push, if_neg (by omega)]
  have hm := mutS_push hI.good.len (S := S) ⟨w.heap.size, 0⟩ (.cells T cs)
  refine ⟨List.prefix_append _ _, ⟨rfl, rfl, by simp, fun x hx _ => hold x hx⟩, ?_, ?_⟩
  · refine hI.good.push ⟨w.heap.size, 0⟩ (.cells T cs) hcs (fun _ => ⟨Nat.le_refl _, by simp, hI.freshJ _ (Nat.le_refl _)⟩) (by simp) hold ⟨rfl, hnew⟩
  · intro x hx
    rcases (hm x).1 hx with h1 | ⟨_, h1⟩
    · exact .inl h1
    · subst h1; exact .inr (Nat.le_refl _)

theorem loc_wf (n : Nat) : (SV.loc n 0).wf (n + 1) = true := by simp [SV.wf, blt_true]

theorem getD_new (ℓ : List Base) (b : Base) : (ℓ ++ [b]).getD ℓ.length default = b := by simp [List.getD]

theorem wf_cellsOf {n : Nat} {s : SV} (h : s.wf n = true) : SV.wfL n (cellsOf s) = true := by
  cases s <;> simp_all [cellsOf, SV.wfL, SV.wf]

theorem allOne_spec : ∀ {l : List SV}, allOne l = true → ∀ v ∈ SV.denL ℓ l, v.oneCell' = true
  | [], _, v, hv => by simp [SV.denL] at hv
  | s :: r, h, v, hv => by
    simp only [allOne] at h
    split at h
    · rename_i h1
      simp only [SV.denL, List.mem_cons] at hv
      rcases hv with h2 | h2
      · subst h2
        cases s <;> simp_all [oneCell, SV.den, Value.oneCell']
      · exact allOne_spec h v h2
    · cases h

theorem zeros_run {t : TypeId} {k : TK} (hT : TTOK P tt) (ht : tt t = some k) : ∃ z, (∀ w, (zeroValue t).run P w = .ok z w) ∧ z.cells = k.zeros.toArray := by
  have := hT t k ht
  cases k with
  | cell z => exact ⟨z, this.zero, this.cells⟩
  | slice e n => exact ⟨_, this.1.zero, rfl⟩
  | str => exact ⟨_, this.1.zero, rfl⟩
  | map k e => exact ⟨_, this.1.zero, rfl⟩
  | struct offs szs zs => exact ⟨_, this.2.2.1, rfl⟩
  | arr n e k zs => exact ⟨_, this.2.2.1, rfl⟩

theorem size_run {t : TypeId} {k : TK} (hT : TTOK P tt) (ht : tt t = some k) : ∀ w, (sizeOf t).run P w = .ok k.zeros.length w := by
  have := hT t k ht
  cases k with
  | cell z => exact this.size
  | slice e n => exact this.1.size
  | str => exact this.1.size
  | map k e => exact this.1.size
  | struct offs szs zs => exact this.2.1
  | arr n e k zs => exact this.2.1

theorem run_execOp_alloc {o : Oper} {t : TypeId} (ho : o.op = .alloc t) {z : Value} (hz : (zeroValue t).run P w = .ok z w) : (execOp a.eval o).run P w = .ok (.value (.pointer (some ⟨w.heap.size, 0, none⟩))) (w.alloc (.cells z.cells t)) := by
  unfold execOp
  rw [ho]
  simp [Instr.alloc, hz, newVar, newRow]

theorem run_execOp_box {o : Oper} {t : TypeId} {x : Operand} (ho : o.op = .box t x) : (execOp a.eval o).run P w = .ok (.value (.pointer (some ⟨w.heap.size, 0, none⟩))) (w.alloc (.cells (a.eval x).cells t)) := by
  unfold execOp
  rw [ho]
  simp [Instr.box, newVar, newRow]

end
end Go.Tr
