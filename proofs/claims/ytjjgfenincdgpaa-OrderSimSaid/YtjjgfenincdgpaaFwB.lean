/- The operations that touch no memory but to read own blocks, run on symbolic values (stepPure), and that the model answers the same. No condition: lemmas for the other texts. -/
import Derived.Test.YtjjgfenincdgpaaFwA
import Derived.Laws.Cells
import Derived.Laws.World
namespace Go.Tr
open Go

def nth {α : Type} : List α → Nat → Option α
  | [], _ => none
  | a :: _, 0 => some a
  | _ :: l, n + 1 => nth l n

theorem nth_eq {α : Type} : ∀ (l : List α) (n : Nat), nth l n = l[n]?
  | [], _ => rfl
  | _ :: _, 0 => rfl
  | _ :: l, n + 1 => by simpa [nth] using nth_eq l n

/-- A list brought into the form of conses before it goes on. -/
def forceL {α β : Type} : List α → (List α → β) → β
  | [], K => K []
  | a :: l, K => forceL l (fun l' => K (a :: l'))

theorem forceL_eq {α β : Type} : ∀ (l : List α) (K : List α → β), forceL l K = K l
  | [], _ => rfl
  | a :: l, K => forceL_eq l (fun l' => K (a :: l'))

def setRange {α : Type} (l : List α) (off : Nat) (xs : List α) : List α := l.take off ++ (xs ++ l.drop (off + xs.length))

/-- What is known of a type. -/
inductive TK where
  | cell (z : Value)
  | slice (e : TypeId) (k : Nat)
  | str
  | map (key elem : TypeId)
  | struct (offs szs : List Nat) (zs : List Value)
  | arr (n : Nat) (e : TypeId) (k : Nat) (zs : List Value)

structure CellTy (P : Program) (t : TypeId) (z : Value) : Prop where
  agg : ∀ w, (isAgg t).run P w = .ok false w
  size : ∀ w, (sizeOf t).run P w = .ok 1 w
  zero : ∀ w, (zeroValue t).run P w = .ok z w
  cells : z.cells = #[z]

def TyOK (P : Program) (t : TypeId) : TK → Prop
  | .cell z => CellTy P t z
  | .slice e k => CellTy P t (.slice none 0 0) ∧ P.underlying t = some (.slice e) ∧ (∀ w, (sizeOf e).run P w = .ok k w)
  | .str => CellTy P t (.string ByteArray.empty) ∧ P.underlying t = some .string
  | .map key elem => CellTy P t (.map none) ∧ P.underlying t = some (.map key elem)
  | .struct offs szs zs => (∀ w, (isAgg t).run P w = .ok true w) ∧ (∀ w, (sizeOf t).run P w = .ok zs.length w) ∧ (∀ w, (zeroValue t).run P w = .ok (.agg zs.toArray) w) ∧
      ∃ fs : Array Field, P.underlying t = some (.struct fs) ∧ fs.toList.map (·.offset) = offs ∧ szs.length = fs.size ∧ ∀ (i : Nat) (f : Field) (n : Nat), fs[i]? = some f → szs[i]? = some n → n ≠ 0 ∧ ∀ w, (sizeOf f.type).run P w = .ok n w
  | .arr n e k zs => (∀ w, (isAgg t).run P w = .ok true w) ∧ (∀ w, (sizeOf t).run P w = .ok zs.length w) ∧ (∀ w, (zeroValue t).run P w = .ok (.agg zs.toArray) w) ∧
      P.underlying t = some (.array n e) ∧ (∀ w, (sizeOf e).run P w = .ok k w)

abbrev Tab := TypeId → Option TK
def TTOK (P : Program) (tt : Tab) : Prop := ∀ t k, tt t = some k → TyOK P t k

def tabOf : List (Nat × TK) → Tab
  | [], _ => none
  | (n, k) :: r, t => match Nat.beq n t with
    | true => some k
    | false => tabOf r t

theorem TTOK_nil (P : Program) : TTOK P (tabOf []) := by intro t k h; simp [tabOf] at h
theorem TTOK_cons {P : Program} {n : Nat} {k : TK} {r : List (Nat × TK)} (h : TyOK P n k) (hr : TTOK P (tabOf r)) : TTOK P (tabOf ((n, k) :: r)) := by
  intro t k' h'
  simp only [tabOf] at h'
  split at h'
  · rename_i hb
    have := Nat.eq_of_beq_eq_true hb
    subst this
    cases h'
    exact h
  · exact hr t k' h'

def kidx : IntKind → Nat
  | .i8 => 0 | .i16 => 1 | .i32 => 2 | .i64 => 3 | .u8 => 4 | .u16 => 5 | .u32 => 6 | .u64 => 7
theorem kidx_inj {a b : IntKind} (h : Nat.beq (kidx a) (kidx b) = true) : a = b := by
  cases a <;> cases b <;> first | rfl | (simp [kidx] at h)

def intBin : BinOp → IntKind → Int → Int → Option Value
  | .add, k, a, b => some (.int k (k.wrap (a + b)))
  | .sub, k, a, b => some (.int k (k.wrap (a - b)))
  | .mul, k, a, b => some (.int k (k.wrap (a * b)))
  | .eql, _, a, b => some (.bool (a == b))
  | .neq, _, a, b => some (.bool (a != b))
  | .lss, _, a, b => some (.bool (decide (a < b)))
  | .leq, _, a, b => some (.bool (decide (a ≤ b)))
  | .gtr, _, a, b => some (.bool (decide (a > b)))
  | .geq, _, a, b => some (.bool (decide (a ≥ b)))
  | _, _, _, _ => none

def strBin : BinOp → ByteArray → ByteArray → Option Value
  | .eql, a, b => some (.bool (a.toList == b.toList))
  | .neq, a, b => some (.bool (!(a.toList == b.toList)))
  | .lss, a, b => some (.bool (Op.bytesLess a.toList b.toList))
  | .gtr, a, b => some (.bool (!(Op.bytesLess a.toList b.toList || a.toList == b.toList)))
  | .leq, a, b => some (.bool (Op.bytesLess a.toList b.toList || a.toList == b.toList))
  | .geq, a, b => some (.bool (!Op.bytesLess a.toList b.toList))
  | _, _, _ => none

def cellsOf : SV → List SV
  | .agg cs => cs
  | s => [s]

/-- Not an aggregate hidden in a model value. -/
def plainS : SV → Bool
  | .v (.agg _) => false
  | _ => true

/-- One cell, by its form. -/
def oneCell : SV → Bool
  | .agg _ => false
  | .tup _ => false
  | .v x => x.oneCell'
  | _ => true

def SV.ofV : Value → SV
  | .agg cs => forceL cs.toList (fun l => .agg (l.map .v))
  | x => .v x

abbrev Getter := List (Nat × Bool) → Operand → Option SV

def knownOf : List (Nat × Bool) → Nat → Option Bool
  | [], _ => none
  | (g, b) :: r, t => match Nat.beq g t with
    | true => some b
    | false => knownOf r t

def getAll (get : Getter) : List Operand → Option (List SV)
  | [] => some []
  | x :: xs => match get [] x with
    | some s => match getAll get xs with
      | some ss => some (s :: ss)
      | none => none
    | none => none

/-- The parts of a struct literal laid into its cells. -/
def fillS (offs szs : List Nat) (cells : List SV) (get : Getter) : List (Nat × Operand) → Option (List SV)
  | [] => some cells
  | (i, x) :: rest => match nth offs i, nth szs i, get [] x with
    | some off, some sz, some s => match (plainS s && Nat.beq (cellsOf s).length sz) && Nat.ble (off + sz) cells.length with
      | true => forceL (setRange cells off (cellsOf s)) (fun c => fillS offs szs c get rest)
      | false => none
    | _, _, _ => none

def purePick (kn : List (Nat × Bool)) (get : Getter) (g : Nat) (a b : Operand) : Option SV :=
  match knownOf kn g with
  | some true => get [] a
  | some false => get [] b
  | none => match get [] (.tmp g) with
    | some (.v (.bool cb)) => match a with
      | .const (.bool true) => match get [(g, false)] b with
        | some (.v (.bool bb)) => some (.v (.bool (cb || bb)))
        | _ => none
      | a => match b with
        | .const (.bool false) => match get [(g, true)] a with
          | some (.v (.bool ab)) => some (.v (.bool (cb && ab)))
          | _ => none
        | b => match get [(g, true)] a, get [(g, false)] b with
          | some (.v (.bool ab)), some (.v (.bool bb)) => some (.v (.bool (if cb then ab else bb)))
          | _, _ => none
    | _ => none

def pureNil : Option SV → Option SV
  | some (.loc i o) => some (.loc i o)
  | some (.fn (.func f) first caps) => some (.fn (.func f) first caps)
  | _ => none

def cellsIn : Option Blk → Option (List SV)
  | some (.cells _ cs) => some cs
  | some (.imm cs) => some cs
  | _ => none

def loadFrom (cs : List SV) (o : Nat) : Option TK → Option SV
  | some (.cell _) => nth cs o
  | some (.slice _ _) => nth cs o
  | some .str => nth cs o
  | some (.map _ _) => nth cs o
  | some (.struct _ _ zs) => match Nat.ble (o + zs.length) cs.length with
    | true => forceL ((cs.drop o).take zs.length) (fun l => some (.agg l))
    | false => none
  | some (.arr _ _ _ zs) => match Nat.ble (o + zs.length) cs.length with
    | true => forceL ((cs.drop o).take zs.length) (fun l => some (.agg l))
    | false => none
  | none => none

def pureLoad (tt : Tab) (own : List Blk) (t : TypeId) : Option SV → Option SV
  | some (.loc i o) => match cellsIn (nth own i) with
    | some cs => loadFrom cs o (tt t)
    | none => none
  | _ => none

def pureField (f : Nat) : Option SV → Option TK → Option SV
  | some (.loc i o), some (.struct offs _ _) => match nth offs f with
    | some d => some (.loc i (o + d))
    | none => none
  | _, _ => none

def liftV : Option Value → Option SV
  | some v => some (.v v)
  | none => none

def pureBin (op : BinOp) : Option SV → Option SV → Option SV
  | some (.v (.int k a)), some (.v (.int k' b)) => match Nat.beq (kidx k) (kidx k') with
    | true => liftV (intBin op k a b)
    | false => none
  | some (.v (.string a)), some (.v (.string b)) => liftV (strBin op a b)
  | _, _ => none

def pureUn : UnOp → Option SV → Option SV
  | .not, some (.v (.bool b)) => some (.v (.bool (!b)))
  | .neg, some (.v (.int k n)) => some (.v (.int k (k.wrap (0 - n))))
  | _, _ => none

def pureFn (fn : Fn) : Option (List SV) → Option (List SV) → Option SV
  | some l, some l' => some (.fn fn l l')
  | _, _ => none

def pureExt (i : Nat) : Option SV → Option SV
  | some (.tup xs) => nth xs i
  | _ => none

def pureBuild (get : Getter) (parts : Array (Nat × Operand)) : Option TK → Option SV
  | some (.struct offs szs zs) => match forceL (zs.map SV.v) (fun z => fillS offs szs z get parts.toList) with
    | some l => some (.agg l)
    | none => none
  | _ => none

def pureLen : Option SV → Option TK → Option SV
  | some (.v (.slice _ n _)), some (.slice _ _) => some (.v (.int .i64 n))
  | some (.v (.string s)), some .str => some (.v (.int .i64 s.size))
  | _, _ => none

def pureLenOf (tt : Tab) (get : Getter) : List Operand → List TypeId → Option SV
  | [x], [t] => pureLen (get [] x) (tt t)
  | _, _ => none

def pureCall (tt : Tab) (get : Getter) (c : Call) : Option SV :=
  match c.callee with
  | .builtin .len => pureLenOf tt get c.args.toList c.argTypes.toList
  | _ => none

def stepPure (tt : Tab) (own : List Blk) (kn : List (Nat × Bool)) (get : Getter) : Op → Option SV
  | .move x => get [] x
  | .assign x => get [] x
  | .pick (.tmp g) a b => purePick kn get g a b
  | .nilCheck x => pureNil (get [] x)
  | .load t x => pureLoad tt own t (get [] x)
  | .fieldAddr t x f => pureField f (get [] x) (tt t)
  | .binOp op _ x y _ => pureBin op (get [] x) (get [] y)
  | .unOp op _ x => pureUn op (get [] x)
  | .makeFunc fn first caps => pureFn fn (getAll get first.toList) (getAll get caps.toList)
  | .extract x i => pureExt i (get [] x)
  | .build t parts => pureBuild get parts (tt t)
  | .call c => pureCall tt get c
  | _ => none

end Go.Tr
