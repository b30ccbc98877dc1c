/- Terms as plain data, and what the packages term and trussref03 compute over them. No condition: definitions and lemmas. -/
import Derived.Test.YtjjgfenincdgpaaFwJ
namespace Go.Proofs.Ytjjgfenincdgpaa
open Go.Tr Go

inductive Tm where
  | mk (op hd n : Int) (args : List Tm)

def Tm.op : Tm → Int | .mk o _ _ _ => o
def Tm.hd : Tm → Int | .mk _ h _ _ => h
def Tm.n : Tm → Int | .mk _ _ n _ => n
def Tm.args : Tm → List Tm | .mk _ _ _ a => a

theorem Tm.eta (t : Tm) : t = .mk t.op t.hd t.n t.args := by cases t; rfl

mutual
def Tm.enc : Tm → D
  | .mk o h n a => .agg [.int .i64 o, .int .i64 h, .int .i64 n, .sl 4 (Tm.encL a)]
def Tm.encL : List Tm → List D
  | [] => []
  | t :: ts => t.enc :: Tm.encL ts
 end

theorem Tm.encL_eq : ∀ (l : List Tm), Tm.encL l = l.map Tm.enc
  | [] => rfl
  | t :: ts => by simp only [Tm.encL, List.map_cons, Tm.encL_eq ts]
theorem Tm.encL_length (l : List Tm) : (Tm.encL l).length = l.length := by simp [Tm.encL_eq]
theorem Tm.encL_get {l : List Tm} {i : Nat} {t : Tm} (h : l[i]? = some t) : (Tm.encL l)[i]? = some (.agg [.int .i64 t.op, .int .i64 t.hd, .int .i64 t.n, .sl 4 (Tm.encL t.args)]) := by
  rw [Tm.encL_eq, List.getElem?_map, h]; cases t; rfl

/-- Induction over a term: what holds of all its Args holds of it. -/
theorem Tm.ind {motive : Tm → Prop} (h : ∀ t, (∀ x ∈ t.args, motive x) → motive t) (t : Tm) : motive t := by
  induction t using Tm.rec (motive_2 := fun ts => ∀ x ∈ ts, motive x) with
  | nil => rename_i x hx; cases hx
  | cons t ts ih1 ih2 => rename_i x hx; rcases List.mem_cons.1 hx with e | e; (subst e; exact ih1); exact ih2 x e
  | mk op hd n args ih => exact h _ ih

/-- A term's slice, as the machine has it. -/
abbrev tmS (t : Tm) (a : Option Addr) (c : Nat) : SV := .agg [.v (.int .i64 t.op), .v (.int .i64 t.hd), .v (.int .i64 t.n), .v (.slice a (Tm.encL t.args).length c)]
abbrev tmR (t : Tm) (a : Option Addr) (c : Nat) : Value × D := (.slice a (Tm.encL t.args).length c, .sl 4 (Tm.encL t.args))
abbrev iS (n : Int) : SV := .v (.int .i64 n)
abbrev bS (b : Bool) : SV := .v (.bool b)
abbrev fnS (f : Nat) : Cal := .val (.fn (.func f) [] [])

/-- What a node shows by itself. -/
def okNode (op hd n : Int) (len : Nat) : Bool :=
  if op = 1 then decide ((hd = 0 ∧ n = 0) ∧ len = 0)
  else if op = 2 then decide ((hd = 0 ∧ n = 0) ∧ len = 2)
  else if op = 3 then decide ((hd = 0 ∧ n = 0) ∧ len = 1)
  else if op = 4 then decide (((1 ≤ hd ∧ hd ≤ 3) ∧ 0 ≤ n) ∧ n ≤ 9999)
  else false

mutual
def properF : Tm → Int → Int → Bool × Int
  | .mk op hd n args, depth, k =>
    if 600 < k + 1 ∨ 40 < depth then (false, k + 1)
    else if okNode op hd n args.length = true then properL args (depth + 1) (k + 1) else (false, k + 1)
def properL : List Tm → Int → Int → Bool × Int
  | [], _, k => (true, k)
  | t :: ts, depth, k => match properF t depth k with
    | (true, k') => properL ts depth k'
    | (false, k') => (false, k')
 end

theorem properF_eq (t : Tm) (depth k : Int) : properF t depth k = if 600 < k + 1 ∨ 40 < depth then (false, k + 1)
    else if okNode t.op t.hd t.n t.args.length = true then properL t.args (depth + 1) (k + 1) else (false, k + 1) := by
  cases t; rfl

theorem properF_le (t : Tm) : ∀ (depth k : Int), 0 ≤ k → k ≤ 600 → k ≤ (properF t depth k).2 ∧ (properF t depth k).2 ≤ 601 ∧ ((properF t depth k).1 = true → (properF t depth k).2 ≤ 600) := by
  induction t using Tm.ind with
  | h t ih =>
    intro depth k h1 h2
    have hl : ∀ (ts : List Tm), (∀ x ∈ ts, x ∈ t.args) → ∀ (depth k : Int), 0 ≤ k → k ≤ 600 → k ≤ (properL ts depth k).2 ∧ (properL ts depth k).2 ≤ 601 ∧ ((properL ts depth k).1 = true → (properL ts depth k).2 ≤ 600) := by
      intro ts
      induction ts with
      | nil => intro _ depth k h1 h2; simp only [properL]; exact ⟨Int.le_refl _, by omega, fun _ => h2⟩
      | cons x ts ihl =>
        intro hx depth k h1 h2
        have hx1 := ih x (hx x (by simp)) depth k h1 h2
        simp only [properL]
        cases hp : properF x depth k with
        | mk b k' =>
          rw [hp] at hx1
          cases b with
          | true =>
            have := ihl (fun y hy => hx y (by simp [hy])) depth k' (by simp at hx1; omega) (hx1.2.2 rfl)
            simp only at hx1 ⊢
            exact ⟨by omega, this.2.1, this.2.2⟩
          | false => simpa using hx1
    rw [properF_eq]
    split
    · exact ⟨by simp only; omega, by simp only; omega, fun h => by simp at h⟩
    · split
      · have := hl t.args (fun _ h => h) (depth + 1) (k + 1) (by omega) (by omega)
        exact ⟨by omega, this.2.1, this.2.2⟩
      · exact ⟨by simp; omega, by simp; omega, by simp⟩

end Go.Proofs.Ytjjgfenincdgpaa
