/- The conditions that the framework computes from a function's code (vcOps, vcC), and contracts (Meets). No condition: definitions. -/
import Derived.Test.YtjjgfenincdgpaaFwB
namespace Go.Tr
open Go

abbrev Atoms := List (Nat × Bool)
abbrev Gen := List (Nat × SV × Atoms)

def gfind : Gen → Nat → Option (SV × Atoms)
  | [], _ => none
  | (n, s, a) :: r, t => match Nat.beq n t with
    | true => some (s, a)
    | false => gfind r t

def beqB : Bool → Bool → Bool
  | true, true => true
  | false, false => true
  | _, _ => false

def memAtom (g : Nat) (b : Bool) : Atoms → Bool
  | [] => false
  | (h, c) :: r => match Nat.beq h g && beqB c b with
    | true => true
    | false => memAtom g b r

def subAtoms : Atoms → Atoms → Bool
  | [], _ => true
  | (g, b) :: r, l => match memAtom g b l with
    | true => subAtoms r l
    | false => false

def constO : Value → Option SV
  | .agg cs => forceL (cs.toList.map SV.v) (fun l => some (.agg l))
  | x => some (.v x)

/-- What an operand is, under the atoms 'al' (what is assumed while the operation runs). -/
def getter (gen : Gen) (env : Env) (al : Atoms) : Getter := fun ex x => match x with
  | .tmp t => match gfind gen t with
    | some (s, tags) => match subAtoms tags (ex ++ al) with
      | true => some s
      | false => none
    | none => find env t
  | .const v => constO v
  | .global g => some (.v (.pointer (some ⟨g, 0, none⟩)))
  | .func f => some (.fn (.func f) [] [])

inductive Out where
  | ret (r : SV)
  | pan (v : SV)

def Out.ending (ℓ : List Base) : Out → Ending
  | .ret r => .returned (r.den ℓ)
  | .pan v => .panicked [{ v := v.den ℓ, recovered := false }]

def Out.wf (n : Nat) : Out → Bool
  | .ret r => r.wf n
  | .pan v => v.wf n

/-- What is called: a function value, or a method of an interface value. -/
inductive Cal where
  | val (F : SV)
  | meth (r : SV) (name : String)

def Cal.wf (n : Nat) : Cal → Bool
  | .val F => F.wf n
  | .meth r _ => r.wf n

def Cal.sem (ℓ : List Base) (args : List SV) : Cal → Sem Next
  | .val F => do let d ← Deferred.ofValue (F.den ℓ) (SV.denL ℓ args).toArray; invoke d.target d.args
  | .meth r name => invoke (.fn (.method name) #[]) (#[r.den ℓ] ++ (SV.denL ℓ args).toArray)

/-- How a call ends: its outcome and state satisfy R; nothing has turned but the blocks that S may write. -/
def CallPost (J : Nat → Prop) (ℓ : List Base) (S : St) (w : World) (R : Out → St → Prop) : Ending → World → Prop := fun e w' =>
  ∃ ℓ' o S', e = o.ending ℓ' ∧ o.wf S'.own.length = true ∧ ℓ <+: ℓ' ∧ Ext (mutS ℓ S) w w' ∧ Good J ℓ' S' w' ∧ (∀ b ∈ mutS ℓ' S', b ∈ mutS ℓ S ∨ w.heap.size ≤ b) ∧ R o S'

def Fresh (J : Nat → Prop) (w : World) : Prop := ∀ b, w.heap.size ≤ b → J b

/-- Every function; in a round of the loop ro, or in none. -/
def fen (ro : Option Nat) : Fence := { fn := fun _ => True, depth := none, alive := false, round := ro }

/-- What a call leads to, a function or a round of a loop, is run and ends as R says. -/
def Runs (P : Program) : Next → World → (Ending → World → Prop) → Prop
  | .enter f as, w, R => CallsIn (fen none) 0 P f as w R
  | .round l f tmps assign body, w, R => RoundIn (fen none) 0 P l f tmps assign body w R
  | _, _, _ => False

theorem Runs.mono {P : Program} {w : World} {R R' : Ending → World → Prop} {nx : Next} (h : Runs P nx w R) (hr : ∀ e w', R e w' → R' e w') : Runs P nx w R' := by
  cases nx <;> first
    | exact CallsIn.mono h hr
    | exact RoundIn.mono h hr
    | exact h.elim

/-- A contract: called with args in a world that S describes, the call ends as R says. -/
def Meets (P : Program) (c : Cal) (args : List SV) (S : St) (R : Out → St → Prop) : Prop :=
  ∀ J ℓ w, Good J ℓ S w → Fresh J w → ∃ nx, (c.sem ℓ args).run P w = .ok nx w ∧ Runs P nx w (CallPost J ℓ S w R)

/-- An operation that may write: what it yields and the state behind it satisfy K. -/
structure AtSem (P : Program) (m : List Base → Sem Value) (S : St) (K : SV → St → Prop) : Prop where
  sem : ∀ J ℓ w, Good J ℓ S w → Fresh J w → ∃ r ℓ' S' w', (m ℓ).run P w = .ok (r.den ℓ') w' ∧ r.wf S'.own.length = true ∧ ℓ <+: ℓ' ∧ Ext (mutS ℓ S) w w' ∧ Good J ℓ' S' w' ∧ (∀ b ∈ mutS ℓ' S', b ∈ mutS ℓ S ∨ w.heap.size ≤ b) ∧ K r S'

/-- What own blocks hold in cells stays. -/
def OwnKept (S S' : St) : Prop := ∀ i cs, cellsIn (nth S.own i) = some cs → cellsIn (nth S'.own i) = some cs

/-- An operation that yields the same in every world: it may add to what is known. -/
structure AtPure (P : Program) (m : List Base → Sem Value) (S : St) (K : SV → St → Prop) : Prop where
  sem : ∀ J ℓ w, Good J ℓ S w → Fresh J w → ∃ r ℓ' S', (∀ w', (m ℓ).run P w' = .ok (r.den ℓ') w') ∧ r.wf S'.own.length = true ∧ ℓ <+: ℓ' ∧ Good J ℓ' S' w ∧ (∀ b ∈ mutS ℓ' S', b ∈ mutS ℓ S) ∧ OwnKept S S' ∧ K r S'

structure AtIf (b : Bool) (A B : Prop) : Prop where
  t : b = true → A
  f : b = false → B

structure AtGuard (b want : Bool) (A B : Prop) : Prop where
  t : b = want → A
  f : b = !want → B

def undefS : SV := .tup []

def allOne : List SV → Bool
  | [] => true
  | s :: r => match oneCell s with
    | true => allOne r
    | false => false

def TK.zeros : TK → List Value
  | .cell z => [z]
  | .slice _ _ => [.slice none 0 0]
  | .str => [.string ByteArray.empty]
  | .map _ _ => [.map none]
  | .struct _ _ zs => zs
  | .arr _ _ _ zs => zs

def setNth {α : Type} (l : List α) (i : Nat) (a : α) : List α := l.set i a

def mapOpt {α β : Type} (f : α → Option β) : Option α → Option (Option β)
  | none => some none
  | some a => match f a with
    | some b => some (some b)
    | none => none

def denO (ℓ : List Base) : Option SV → Option Value
  | none => none
  | some s => some (s.den ℓ)

def getParts (get : Getter) : List (Nat × Operand) → Option (List (Nat × SV))
  | [] => some []
  | (i, x) :: r => match get [] x with
    | some s => match getParts get r with
      | some l => some ((i, s) :: l)
      | none => none
    | none => none

def denParts (ℓ : List Base) : List (Nat × SV) → List (Nat × Value)
  | [] => []
  | (i, s) :: r => (i, s.den ℓ) :: denParts ℓ r

/-- The state with other own blocks; with more data. -/
def putOwn (S : St) (own : List Blk) (K : St → Prop) : Prop := match S with
  | ⟨_, accs, reps⟩ => K ⟨own, accs, reps⟩
def addReps (S : St) (out : List (Value × D)) (K : St → Prop) : Prop := match S with
  | ⟨own, accs, reps⟩ => forceL (reps ++ out) (fun reps' => K ⟨own, accs, reps'⟩)

theorem putOwn_eq (S : St) (own : List Blk) (K : St → Prop) : putOwn S own K = K ⟨own, S.accs, S.reps⟩ := rfl
theorem addReps_eq (S : St) (out : List (Value × D)) (K : St → Prop) : addReps S out K = K ⟨S.own, S.accs, S.reps ++ out⟩ := by
  cases S; simp only [addReps, forceL_eq]

/-- One operation, run. -/
def vcRun (P : Program) (tt : Tab) (kn : Atoms) (get : Getter) (o : Oper) (S : St) (K : SV → St → Prop) (Kp : SV → St → Prop) : Prop :=
  match stepPure tt S.own kn get o.op with
  | some s => K s S
  | none => match o.op with
    | .box t x => match get [] x with
      | some s => match plainS s with
        | true => forceL (S.own ++ [.cells t (cellsOf s)]) (fun own => putOwn S own (fun S' => K (.loc S.own.length 0) S'))
        | false => False
      | none => False
    | .alloc t => match tt t with
      | some k => forceL (k.zeros.map SV.v) (fun z => forceL (S.own ++ [.cells t z]) (fun own => putOwn S own (fun S' => K (.loc S.own.length 0) S')))
      | none => False
    | .store t a x => match get [] a, get [] x with
      | some (.loc i off), some s => match nth S.own i, tt t with
        | some (.cells T cs), some k => match ((plainS s && allOne (cellsOf s)) && Nat.beq (cellsOf s).length k.zeros.length) && Nat.ble (off + (cellsOf s).length) cs.length with
          | true => forceL (setRange cs off (cellsOf s)) (fun cs' => forceL (setNth S.own i (.cells T cs')) (fun own => putOwn S own (fun S' => K undefS S')))
          | false => False
        | _, _ => False
      | some sa, some s => AtSem P (fun ℓ => do Instr.storeAt t (sa.den ℓ) (s.den ℓ); pure undef) S K
      | _, _ => False
    | .call c => match c.callee with
      | .value f => match get [] f, getAll get c.args.toList with
        | some F, some args => Meets P (.val F) args S (fun o S' => match o with
          | .ret r => K r S'
          | .pan v => Kp v S')
        | _, _ => False
      | .invoke r m => match get [] r, getAll get c.args.toList with
        | some F, some args => Meets P (.meth F m) args S (fun o S' => match o with
          | .ret r => K r S'
          | .pan v => Kp v S')
        | _, _ => False
      | .builtin .append => match getAll get c.args.toList with
        | some args => AtSem P (fun ℓ => Builtin.append_ c.argTypes o.type (SV.denL ℓ args).toArray) S K
        | none => False
      | .builtin .min => match getAll get c.args.toList with
        | some args => AtPure P (fun ℓ => Builtin.min_ c.argTypes o.type (SV.denL ℓ args).toArray) S K
        | none => False
      | .builtin .max => match getAll get c.args.toList with
        | some args => AtPure P (fun ℓ => Builtin.max_ c.argTypes o.type (SV.denL ℓ args).toArray) S K
        | none => False
      | .builtin .len => match getAll get c.args.toList with
        | some args => AtSem P (fun ℓ => Builtin.len_ c.argTypes o.type (SV.denL ℓ args).toArray) S K
        | none => False
      | .builtin .cap => match getAll get c.args.toList with
        | some args => AtPure P (fun ℓ => Builtin.cap_ c.argTypes o.type (SV.denL ℓ args).toArray) S K
        | none => False
      | .builtin .copy => match getAll get c.args.toList with
        | some args => AtSem P (fun ℓ => Builtin.copy_ c.argTypes o.type (SV.denL ℓ args).toArray) S K
        | none => False
      | .builtin .delete => match getAll get c.args.toList with
        | some args => AtSem P (fun ℓ => Builtin.delete_ c.argTypes o.type (SV.denL ℓ args).toArray) S K
        | none => False
      | _ => False
    | .indexAddr t x i => match get [] x, get [] i with
      | some sx, some si => AtPure P (fun ℓ => Instr.indexAt t (sx.den ℓ) (si.den ℓ)) S K
      | _, _ => False
    | .index t x i => match get [] x, get [] i with
      | some sx, some si => AtPure P (fun ℓ => Instr.index t (sx.den ℓ) (si.den ℓ)) S K
      | _, _ => False
    | .field t x f => match get [] x with
      | some sx => AtPure P (fun ℓ => Instr.field t (sx.den ℓ) f) S K
      | none => False
    | .load t x => match get [] x with
      | some sx => AtSem P (fun ℓ => Instr.loadAt t (sx.den ℓ)) S K
      | none => False
    | .slice t x lo hi mx => match get [] x, mapOpt (get []) lo, mapOpt (get []) hi, mapOpt (get []) mx with
      | some sx, some sl, some sh, some sm => AtPure P (fun ℓ => Instr.sliceAt t (sx.den ℓ) (denO ℓ sl) (denO ℓ sh) (denO ℓ sm)) S K
      | _, _, _, _ => False
    | .buildSlice t len parts => match getParts get parts.toList with
      | some l => AtSem P (fun ℓ => Instr.buildSlice t len (denParts ℓ l).toArray) S K
      | none => False
    | .makeSlice t l c => match get [] l, get [] c with
      | some sl, some sc => AtSem P (fun ℓ => Instr.makeSlice t (sl.den ℓ) (sc.den ℓ)) S K
      | _, _ => False
    | .makeMap t r => match mapOpt (get []) r with
      | some sr => AtSem P (fun ℓ => Instr.makeMap t (denO ℓ sr)) S K
      | none => False
    | .mapUpdate t m k x => match get [] m, get [] k, get [] x with
      | some sm, some sk, some sx => AtSem P (fun ℓ => do Instr.mapUpdate t (sm.den ℓ) (sk.den ℓ) (sx.den ℓ); pure undef) S K
      | _, _, _ => False
    | .insert t m k x => match get [] m, get [] k, get [] x with
      | some sm, some sk, some sx => AtSem P (fun ℓ => do Instr.mapUpdate t (sm.den ℓ) (sk.den ℓ) (sx.den ℓ); pure undef) S K
      | _, _, _ => False
    | .lookup t x ix ok => match get [] x, get [] ix with
      | some sx, some si => AtSem P (fun ℓ => Instr.lookup t (sx.den ℓ) (si.den ℓ) ok) S K
      | _, _ => False
    | .mapEntry t m k => match get [] m, get [] k with
      | some sm, some sk => AtSem P (fun ℓ => Instr.mapEntry t (sm.den ℓ) (sk.den ℓ)) S K
      | _, _ => False
    | .entryStore t m k x => match get [] m, get [] k, get [] x with
      | some sm, some sk, some sx => AtSem P (fun ℓ => do Instr.entryStore t (sm.den ℓ) (sk.den ℓ) (sx.den ℓ); pure undef) S K
      | _, _, _ => False
    | .range t x => match get [] x with
      | some sx => AtSem P (fun ℓ => Instr.range t (sx.den ℓ)) S K
      | none => False
    | .next it isStr => match get [] it with
      | some sx => AtSem P (fun ℓ => Instr.next (sx.den ℓ) isStr o.type) S K
      | none => False
    | .entry it => match get [] it with
      | some sx => AtSem P (fun ℓ => Instr.entry (sx.den ℓ)) S K
      | none => False
    | .binOp op t x y _ => match get [] x, get [] y with
      | some sx, some sy => AtPure P (fun ℓ => do eqGuard op t x y (sx.den ℓ) (sy.den ℓ); binOp op t (sx.den ℓ) (sy.den ℓ)) S K
      | _, _ => False
    | .unOp op _ x => match get [] x with
      | some sx => AtPure P (fun ℓ => Op.unary op (sx.den ℓ)) S K
      | none => False
    | .convert src dst x => match get [] x with
      | some sx => AtSem P (fun ℓ => convert src dst (sx.den ℓ)) S K
      | none => False
    | .makeInterface t x => match get [] x with
      | some sx => AtPure P (fun ℓ => Instr.makeInterface t (sx.den ℓ)) S K
      | none => False
    | .typeAssert x t a ok => match get [] x with
      | some sx => AtPure P (fun ℓ => Instr.typeAssert (sx.den ℓ) t a ok) S K
      | none => False
    | .build t parts => match getParts get parts.toList with
      | some l => AtPure P (fun ℓ => Instr.build t (denParts ℓ l).toArray) S K
      | none => False
    | .panic x => match get [] x with
      | some (.ifc t s) => Kp (.ifc t s) S
      | _ => False
    | _ => False

def freshG (d : Nat) : Gen → Bool
  | [] => true
  | (n, _, tags) :: r => match Nat.beq n d || tags.any (fun a => Nat.beq a.1 d) with
    | true => false
    | false => freshG d r
def freshK (d : Nat) : Atoms → Bool
  | [] => true
  | (n, _) :: r => match Nat.beq n d with
    | true => false
    | false => freshK d r

def putK (N : Nat) (dst : Option Nat) (s : SV) (kn : Atoms) (gen : Gen) (env : Env) (K : Env → Prop) : Prop :=
  match dst with
  | none => K env
  | some d => match (Nat.blt d N && freshG d gen) && freshK d kn with
    | true => K ((d, s) :: env)
    | false => False

def putG (N : Nat) (dst : Option Nat) (s : SV) (tags : Atoms) (kn : Atoms) (gen : Gen) (env : Env) (K : Gen → Prop) : Prop :=
  match dst with
  | none => K gen
  | some d => match (Nat.blt d N && freshG d gen) && (freshK d kn && freshK d tags) with
    | true => match find env d with
      | none => K ((d, s, tags) :: gen)
      | some _ => False
    | false => False

def guardSlot (ops : Array Oper) (j : Nat) : Option Nat :=
  match nth ops.toList j with
  | some o => o.dst
  | none => none

def gfindE (gen : Gen) (env : Env) (g : Nat) : Option (SV × Atoms) :=
  match gfind gen g with
  | some r => some r
  | none => match find env g with
    | some s => some (s, [])
    | none => none

def flipB : Bool → Bool
  | true => false
  | false => true

abbrev VT := Atoms → Prop
def tagsNil (A : VT) : VT := fun kn => A kn
def tagsOne (gen : Gen) (env : Env) (B : VT) (a : Nat × Bool) (_ : Atoms) (r : VT) : VT := fun kn => match knownOf kn a.1 with
  | some b => match beqB b a.2 with
    | true => r kn
    | false => B kn
  | none => match gfindE gen env a.1 with
    | some (.v (.bool b), tg) => match subAtoms tg kn with
      | true => AtGuard b a.2 (r ((a.1, a.2) :: kn)) (B ((a.1, flipB a.2) :: kn))
      | false => False
    | _ => False

/-- Which of the guards' atoms hold: all, or one of them not. -/
noncomputable def tagsK (gen : Gen) (env : Env) (A B : VT) (l : Atoms) : VT :=
  List.rec (motive := fun _ => VT) (tagsNil A) (tagsOne gen env B) l

theorem tagsK_nil (gen : Gen) (env : Env) (A B : VT) (kn : Atoms) : tagsK gen env A B [] kn = A kn := rfl
theorem tagsK_cons (gen : Gen) (env : Env) (A B : VT) (a : Nat × Bool) (r : Atoms) (kn : Atoms) : tagsK gen env A B (a :: r) kn = tagsOne gen env B a r (tagsK gen env A B r) kn := rfl

abbrev VO := Atoms → Gen → Env → St → (Env → St → Prop) → (SV → St → Prop) → Prop
def vcNil : VO := fun _ _ env S K _ => K env S
noncomputable def vcOp (P : Program) (tt : Tab) (N : Nat) (ops : Array Oper) (o : Oper) (_ : List Oper) (r : VO) : VO := fun kn gen env S K Kp => match o.guard with
    | none => vcRun P tt kn (getter gen env kn) o S (fun s S' => putK N o.dst s kn gen env (fun env' => r kn gen env' S' K Kp)) Kp
    | some (j, want) => match guardSlot ops j with
      | none => False
      | some g => match knownOf kn g with
        | some b => match beqB b want with
          | true => vcRun P tt kn (getter gen env kn) o S (fun s S' => putK N o.dst s kn gen env (fun env' => r kn gen env' S' K Kp)) Kp
          | false => putK N o.dst undefS kn gen env (fun env' => r kn gen env' S K Kp)
        | none => match gfindE gen env g with
          | some (.v (.bool _), tg) => match stepPure tt S.own kn (getter gen env (((g, want) :: tg) ++ kn)) o.op with
            | some s => putG N o.dst s ((g, want) :: tg) kn gen env (fun gen' => r kn gen' env S K Kp)
            | none => tagsK gen env
                (fun kn => vcRun P tt kn (getter gen env kn) o S (fun s S' => putK N o.dst s kn gen env (fun env' => r kn gen env' S' K Kp)) Kp)
                (fun kn => putK N o.dst undefS kn gen env (fun env' => r kn gen env' S K Kp)) ((g, want) :: tg).reverse kn
          | some (.tup [], _) => putK N o.dst undefS kn gen env (fun env' => r kn gen env' S K Kp)
          | _ => False

/-- The operations of a region, in the text's order. -/
noncomputable def vcOps (P : Program) (tt : Tab) (N : Nat) (ops : Array Oper) (l : List Oper) : VO :=
  List.rec (motive := fun _ => VO) vcNil (vcOp P tt N ops) l

theorem vcOps_cons (P : Program) (tt : Tab) (N : Nat) (ops : Array Oper) (o : Oper) (rest : List Oper) : vcOps P tt N ops (o :: rest) = vcOp P tt N ops o rest (vcOps P tt N ops rest) := rfl

inductive X where
  | norm
  | exit (id : Nat)
  | ret
  | pan (v : SV)

def envLe (env : Env) : Env → Prop
  | [] => True
  | (t, s) :: r => find env t = some s ∧ envLe env r

/-- S' says no more than S; its own blocks are the first ones of S. -/
def StLe (S S' : St) : Prop :=
  S'.own.length ≤ S.own.length ∧ ∀ J ℓ w, Good J ℓ S w → Good J (ℓ.take S'.own.length) S' w ∧ ∀ b ∈ mutS (ℓ.take S'.own.length) S', b ∈ mutS ℓ S

/-- What follows a part that ends without a jump. -/
def seqK (F : Env → St → Prop) (K : X → Env → St → Prop) : X → Env → St → Prop
  | .norm, env, S => F env S
  | .exit id, env, S => K (.exit id) env S
  | .ret, env, S => K .ret env S
  | .pan v, env, S => K (.pan v) env S

/-- What follows a block. -/
def blkK (id : Nat) (K : X → Env → St → Prop) : X → Env → St → Prop
  | .norm, env, S => K .norm env S
  | .exit id', env, S => match Nat.beq id' id with
    | true => K .norm env S
    | false => K (.exit id') env S
  | .ret, env, S => K .ret env S
  | .pan v, env, S => K (.pan v) env S

structure AtLoop (m : Nat) (body : (X → Env → St → Prop) → Env → St → Prop) (K : X → Env → St → Prop) (env : Env) (S : St) : Prop where
  ex : ∃ (ι : Type) (inv : ι → Env) (st : ι → St) (Φ : ι → Prop) (μ : ι → Nat) (x0 : ι), Φ x0 ∧ envLe env (inv x0) ∧ StLe S (st x0) ∧
    (∀ x, Φ x → envWf (st x).own.length (inv x) = true ∧ Nat.ble m (st x).own.length = true) ∧
    ∀ x, Φ x → body (seqK (fun env' S' => ∃ x', Φ x' ∧ μ x' < μ x ∧ envLe env' (inv x') ∧ StLe S' (st x')) K) (inv x) (st x)

/-- In a round, the record of the loop is at hand. -/
def inRec (rx : Option Nat) (own : List Blk) : Bool :=
  match rx with
  | none => true
  | some i => match nth own i with
    | some (.lp _) => true
    | _ => false

/-- Behind the function that a loop went over: own block n is the record; the jump that is left is taken. -/
def afterLoop (n : Nat) (K : X → Env → St → Prop) (env : Env) (S : St) : Prop :=
  match nth S.own n with
  | some (.lp x) => match x.state with
    | .busy => False
    | _ => forceL (setNth S.own n (.lp ⟨x.N, x.env, x.ps, x.assign, x.body, .exhausted, x.pend⟩)) (fun own => putOwn S own (fun S' => match x.pend with
      | none => K .norm env S'
      | some .ret => K .ret env S'
      | some (.exit id) => K (.exit id) env S'
      | _ => False))
  | _ => False

/-- A function, whose call enters its body. -/
def Enters (P : Program) (F : SV) : Prop := ∃ f first caps, F = .fn (.func f) first caps ∧ ∀ as w, (callFunc f as).run P w = .ok (.enter f as) w

/-- A loop over a function: what is kept of the frame for its rounds; the function is called with what asks for a round. -/
structure AtRange (P : Program) (N : Nat) (rx : Option Nat) (F : SV) (ps : Array Nat) (assign body : Code) (K : X → Env → St → Prop) (env : Env) (S : St) : Prop where
  ex : ∃ env', envLe env env' ∧ envWf S.own.length env' = true ∧ inRec rx S.own = true ∧ Enters P F ∧
    Meets P (.val F) [.yld S.own.length] ⟨S.own ++ [.lp ⟨N, env', ps, assign, body, .ready, none⟩], S.accs, S.reps⟩ (fun o S' => match o with
      | .ret _ => afterLoop S.own.length K env S'
      | .pan v => K (.pan v) [] S')

/-- A round begins. -/
def beginS (i : Nat) (S : St) (K : St → Prop) : Prop :=
  match nth S.own i with
  | some (.lp x) => match x.state with
    | .ready => forceL (setNth S.own i (.lp ⟨x.N, x.env, x.ps, x.assign, x.body, .busy, x.pend⟩)) (fun own => putOwn S own K)
    | _ => False
  | _ => False

def stOf : Option Code → LoopState
  | none => .ready
  | some _ => .done

/-- A round ends, and leaves a jump. -/
def endS (i : Nat) (j : Option Code) (S : St) (K : St → Prop) : Prop :=
  match nth S.own i with
  | some (.lp x) => forceL (setNth S.own i (.lp ⟨x.N, x.env, x.ps, x.assign, x.body, stOf j, j⟩)) (fun own => putOwn S own K)
  | _ => False

def bindPs : List Nat → List SV → Env → Env
  | p :: ps, s :: ss, env => bindPs ps ss ((p, s) :: env)
  | _, _, env => env

/-- The orders of a region that draws: operations that write nothing are taken as early as they can be; of the others each one that may come next. -/
inductive DTree where
  | leaf (ps : List Nat)
  | node (ps : List Nat) (cs : List (Nat × DTree))

def isPureAt : Op → Bool
  | .call { callee := .builtin .min, .. } => true
  | .call { callee := .builtin .max, .. } => true
  | .call { callee := .builtin .cap, .. } => true
  | .indexAddr .. => true
  | .index .. => true
  | .field .. => true
  | .slice .. => true
  | .binOp .. => true
  | .unOp .. => true
  | .makeInterface .. => true
  | .typeAssert .. => true
  | .build .. => true
  | _ => false

abbrev VP := Gen → Env → St → (Gen → Env → St → Prop) → Prop
def vcPnil : VP := fun gen env S K => K gen env S
def vcPone (P : Program) (tt : Tab) (N : Nat) (ops : Array Oper) (p : Nat) (_ : List Nat) (r : VP) : VP := fun gen env S K => match nth ops.toList p with
    | none => False
    | some o => match o.guard with
      | none => match stepPure tt S.own [] (getter gen env []) o.op with
        | some s => putK N o.dst s [] gen env (fun env' => r gen env' S K)
        | none => match isPureAt o.op with
          | true => vcRun P tt [] (getter gen env []) o S (fun s S' => putK N o.dst s [] gen env (fun env' => r gen env' S' K)) (fun _ _ => False)
          | false => False
      | some (j, want) => match guardSlot ops j with
        | none => False
        | some g => match gfindE gen env g with
          | some (.v (.bool _), tg) => match stepPure tt S.own [] (getter gen env ((g, want) :: tg)) o.op with
            | some s => putG N o.dst s ((g, want) :: tg) [] gen env (fun gen' => r gen' env S K)
            | none => False
          | _ => False

/-- Operations that write nothing, by their numbers. -/
noncomputable def vcPs (P : Program) (tt : Tab) (N : Nat) (ops : Array Oper) (l : List Nat) : VP :=
  List.rec (motive := fun _ => VP) vcPnil (vcPone P tt N ops) l

theorem vcPs_nil (P : Program) (tt : Tab) (N : Nat) (ops : Array Oper) : vcPs P tt N ops [] = vcPnil := rfl
theorem vcPs_cons (P : Program) (tt : Tab) (N : Nat) (ops : Array Oper) (p : Nat) (ps : List Nat) : vcPs P tt N ops (p :: ps) = vcPone P tt N ops p ps (vcPs P tt N ops ps) := rfl

def allC {α : Type} (f : α → Prop) : List α → Prop
  | [] => True
  | [a] => f a
  | a :: r => f a ∧ allC f r

def memN (n : Nat) : List Nat → Bool
  | [] => false
  | m :: r => match Nat.beq m n with
    | true => true
    | false => memN n r

/-- An operation that may be overtaken by what looks at memory has to leave own cells as they are; those in U are overtaken by none. -/
def keepsIf (U : List Nat) (e : Nat) (S S' : St) (A : Prop) : Prop := match memN e U with
  | true => A
  | false => OwnKept S S' ∧ A

/-- One event of a region that draws: it may be guarded by what stands in the frame. -/
def vcEv (P : Program) (tt : Tab) (N : Nat) (ops : Array Oper) (U : List Nat) (e : Nat) (o : Oper) (gen : Gen) (env : Env) (S : St) (KT : Env → St → Prop) (Kp : SV → St → Prop) : Prop := match o.guard with
  | none => vcRun P tt [] (getter gen env []) o S (fun s S' => keepsIf U e S S' (putK N o.dst s [] gen env (fun env' => KT env' S'))) Kp
  | some (j, want) => match guardSlot ops j with
    | none => False
    | some g => match find env g with
      | some (.v (.bool b)) => AtGuard b want (vcRun P tt [] (getter gen env [(g, want)]) o S (fun s S' => keepsIf U e S S' (putK N o.dst s [] gen env (fun env' => KT env' S'))) Kp) (putK N o.dst undefS [] gen env (fun env' => KT env' S))
      | _ => False

mutual
noncomputable def vcTree (P : Program) (tt : Tab) (N : Nat) (ops : Array Oper) (U : List Nat) : DTree → Gen → Env → St → (Env → St → Prop) → (SV → St → Prop) → Prop
  | .leaf ps, gen, env, S, K, _ => vcPs P tt N ops ps gen env S (fun _ env' S' => K env' S')
  | .node ps cs, gen, env, S, K, Kp => vcPs P tt N ops ps gen env S (fun gen' env' S' => vcTrees P tt N ops U cs gen' env' S' K Kp)
noncomputable def vcTrees (P : Program) (tt : Tab) (N : Nat) (ops : Array Oper) (U : List Nat) : List (Nat × DTree) → Gen → Env → St → (Env → St → Prop) → (SV → St → Prop) → Prop
  | [], _, _, _, _, _ => True
  | [(e, t)], gen, env, S, K, Kp => match nth ops.toList e with
    | none => False
    | some o => vcEv P tt N ops U e o gen env S (fun env' S' => vcTree P tt N ops U t gen env' S' K Kp) Kp
  | (e, t) :: r, gen, env, S, K, Kp => (match nth ops.toList e with
    | none => False
    | some o => vcEv P tt N ops U e o gen env S (fun env' S' => vcTree P tt N ops U t gen env' S' K Kp) Kp) ∧ vcTrees P tt N ops U r gen env S K Kp
 end

abbrev Draws := Nat → Option (DTree × List Nat)

/-- A place where ways meet again: what follows is shown once, for a form that each way comes to. -/
structure AtCut (m : Nat) (A : (Env → St → Prop) → Prop) (B : Env → St → Prop) : Prop where
  ex : ∃ (ι : Type) (inv : ι → Env) (st : ι → St) (Φ : ι → Prop), (∀ x, Φ x → envWf (st x).own.length (inv x) = true ∧ Nat.ble m (st x).own.length = true) ∧
    A (fun env S => ∃ x, Φ x ∧ envLe env (inv x) ∧ StLe S (st x)) ∧ ∀ x, Φ x → B (inv x) (st x)

def leadId : Code → Option Nat
  | .region id _ _ => some id
  | .seq a _ => leadId a
  | .block _ body => leadId body
  | .loop body => leadId body
  | _ => none

def dropN (n : Nat) : List Nat → List Nat
  | [] => []
  | m :: r => match Nat.beq m n with
    | true => r
    | false => m :: dropN n r

def isCut (a : Code) : List Nat → Bool
  | [] => false
  | cuts => match leadId a with
    | some id => memN id cuts
    | none => false

def cutsIn (a : Code) (cuts : List Nat) : List Nat :=
  match leadId a with
  | some id => dropN id cuts
  | none => cuts

abbrev VC := List Nat → (X → Env → St → Prop) → Env → St → Prop
def vcNorm : VC := fun _ K env S => K .norm env S
noncomputable def vcRegion (P : Program) (tt : Tab) (N : Nat) (dt : Draws) (id : Nat) (ops : Array Oper) (draw : Bool) : VC := fun _ K env S => match draw with
  | false => vcOps P tt N ops ops.toList [] [] env S (fun env S => K .norm env S) (fun v S => K (.pan v) [] S)
  | true => match dt id with
    | some (t, U) => vcTree P tt N ops U t [] env S (fun env S => K .norm env S) (fun v S => K (.pan v) [] S)
    | none => False
def vcSeq (m : Nat) (a _b : Code) (va vb : VC) : VC := fun cuts K env S => match isCut a cuts with
  | true => AtCut m (fun K' => va (cutsIn a cuts) (seqK K' K) env S) (fun env S => vb cuts K env S)
  | false => va cuts (seqK (fun env S => vb cuts K env S) K) env S
def vcCond (c : Operand) (_t _e : Code) (vt ve : VC) : VC := fun cuts K env S => match getter [] env [] [] c with
  | some (.v (.bool b)) => AtIf b (vt cuts K env S) (ve cuts K env S)
  | _ => False
def vcBlock (id : Nat) (_ : Code) (vb : VC) : VC := fun cuts K env S => vb cuts (blkK id K) env S
def vcLoop (m : Nat) (_ : Code) (vb : VC) : VC := fun cuts K env S => AtLoop m (fun K env S => vb cuts K env S) K env S
def vcRangeF (P : Program) (N : Nat) (rx : Option Nat) (g : Operand) (ps : Array Nat) (assign body : Code) (_ _ : VC) : VC := fun _ K env S => match getter [] env [] [] g with
  | some F => AtRange P N rx F ps assign body K env S
  | none => False
def vcExit (id : Nat) : VC := fun _ K env S => K (.exit id) env S
def vcScope (_ : Code) (vb : VC) : VC := vb
def vcLabel (_ : Nat) : VC := vcNorm
def vcGoto (_ : Nat) : VC := fun _ _ _ _ => False
def vcReturn : VC := fun _ K env S => K .ret env S
def vcRefuse (_ : String) : VC := fun _ _ _ _ => False

noncomputable def vcC (P : Program) (tt : Tab) (N m : Nat) (rx : Option Nat) (dt : Draws) (c : Code) : VC :=
  Code.rec (motive := fun _ => VC) vcNorm (vcRegion P tt N dt) (vcSeq m) vcCond vcBlock (vcLoop m) (vcRangeF P N rx) vcExit vcScope vcLabel vcGoto vcReturn vcRefuse c

section
variable (P : Program) (tt : Tab) (N m : Nat) (rx : Option Nat) (dt : Draws)
theorem vcC_region (id : Nat) (ops : Array Oper) (draw : Bool) : vcC P tt N m rx dt (.region id ops draw) = vcRegion P tt N dt id ops draw := rfl
theorem vcC_seq (a b : Code) : vcC P tt N m rx dt (.seq a b) = vcSeq m a b (vcC P tt N m rx dt a) (vcC P tt N m rx dt b) := rfl
theorem vcC_cond (c : Operand) (t e : Code) : vcC P tt N m rx dt (.cond c t e) = vcCond c t e (vcC P tt N m rx dt t) (vcC P tt N m rx dt e) := rfl
theorem vcC_block (id : Nat) (b : Code) : vcC P tt N m rx dt (.block id b) = vcBlock id b (vcC P tt N m rx dt b) := rfl
theorem vcC_loop (b : Code) : vcC P tt N m rx dt (.loop b) = vcLoop m b (vcC P tt N m rx dt b) := rfl
theorem vcC_rangeF (g : Operand) (ps : Array Nat) (a b : Code) : vcC P tt N m rx dt (.rangeFunc g ps a b) = vcRangeF P N rx g ps a b (vcC P tt N m rx dt a) (vcC P tt N m rx dt b) := rfl
theorem vcC_scope (b : Code) : vcC P tt N m rx dt (.scope b) = vcC P tt N m rx dt b := rfl
end

/-- The end of a function: the outcome o and a part S' of the state satisfy R; m: how many own blocks were handed in. -/
structure AtRet (m : Nat) (o : Out) (S : St) (R : Out → St → Prop) : Prop where
  ex : ∃ S', StLe S S' ∧ m ≤ S'.own.length ∧ o.wf S'.own.length = true ∧ R o S'

def resS (tt : Tab) (own : List Blk) (env : Env) : List ResultVar → Option (List SV)
  | [] => some []
  | .tmp t :: r => match find env t with
    | some s => match resS tt own env r with
      | some l => some (s :: l)
      | none => none
    | none => none
  | .cell ad t :: r => match pureLoad tt own t (find env ad) with
    | some s => match resS tt own env r with
      | some l => some (s :: l)
      | none => none
    | none => none

def resOf (tt : Tab) (own : List Blk) (env : Env) (rs : List ResultVar) : Option SV :=
  match resS tt own env rs with
  | some [s] => some s
  | some l => some (.tup l)
  | none => none

def vcEnd (tt : Tab) (m : Nat) (rs : List ResultVar) (R : Out → St → Prop) : X → Env → St → Prop
  | .norm, env, S => match resOf tt S.own env rs with
    | some r => AtRet m (.ret r) S R
    | none => False
  | .ret, env, S => match resOf tt S.own env rs with
    | some r => AtRet m (.ret r) S R
    | none => False
  | .pan v, _, S => AtRet m (.pan v) S R
  | .exit _, _, _ => False

/-- How a round is left. -/
def roundEnd (m i : Nat) (R : Out → St → Prop) : X → Env → St → Prop
  | .norm, _, S => endS i none S (fun S' => AtRet m (.ret (.v (.bool true))) S' R)
  | .ret, _, S => endS i (some .ret) S (fun S' => AtRet m (.ret (.v (.bool false))) S' R)
  | .exit id, _, S => endS i (some (.exit id)) S (fun S' => AtRet m (.ret (.v (.bool false))) S' R)
  | .pan _, _, _ => False

def argEnv : Nat → List SV → Env
  | _, [] => []
  | i, s :: r => (i, s) :: argEnv (i + 1) r

end Go.Tr
