/- Merged texts: Ref15A Ref15B Orders LawA LawB FwR Reads RowKit FwS Gx Hand ItoaLay. The contracts of trussref15's lams and of its work's variable and same. Conditions: the arguments read as proper terms; small numbers of binders. The contracts of trussref15's in, less and Compare. Conditions: the arguments read as terms that are built as terms are, not nested deep; small numbers of variables. Orders as plain data; the contracts of order.Similar and trussref15.Similar. Conditions: the arguments read as orders. Plain law: what order.compare answers is what trussref15.Compare answers, at terms that are built as terms are. No program in sight. Plain law: which free variables a term has, for the program and for the reference. No program in sight. From contracts to the statements' form: how arguments read as data, and what a call that turns nothing leaves. Conditions stand in each rule. How the arguments of the laws read: terms, orders. Condition: each slice that is met weighs no more than the form's own reach. How the four arguments of the first laws read, and what their rows ask. Condition: each slice that is met weighs no more than the form's own reach. Rules for strings: a byte of one, and maps whose keys are strings (made by the run itself). Conditions stand in each rule. Helpers for the texts that gen.py prints: parts of states by their numbers, rules at calls, appends and returns; functions with fuel. Conditions stand in each rule. Contracts proved by hand, in the form that gen.py prints. Conditions stand in each. The facts that the library's contract of strconv.Itoa asks of the program. No condition. -/
import Derived.Test.YtpibdcjdamibdaaGreatDoorQE
import Derived.RowKit3
import Derived.ProofKit
import Derived.OpenShut
import Derived.JoinedCond
import Derived.ReadAgain
import Derived.ChangeReads
import Derived.ChangeArms
import Derived.ChangeSame
import Derived.Deep.CondSized
import Derived.Test.YtpibdcjdamibdaaGreatDoorRows
import Derived.SizedLaws
import Derived.Handed
import Derived.WalkKit
import Derived.Shelf.Strconv.Itoa3
/-! Ref15A -/
section
namespace Go.Proofs.YtpibdcjdamibdaaGreatDoor
open Go.Tr Go
set_option maxRecDepth 10000

def varF (fx a b k : Int) (l : List Int) : Bool × List Int :=
  if b < k then (a == b, l) else
  if b - k ≥ l.length then (decide (a ≥ k) && (a - k == b - k - l.length), l) else
  if (a - k < 0 ∨ a - k ≥ fx) ∨ (l.getD (b - k).toNat 0 ≥ 0 ∧ l.getD (b - k).toNat 0 ≠ a - k) then (false, l) else (true, l.set (b - k).toNat (a - k))

theorem varF_length (fx a b k : Int) (l : List Int) : (varF fx a b k l).2.length = l.length := by
  unfold varF
  split
  · rfl
  · split
    · rfl
    · split <;> simp

abbrev forA (l : List Int) (ad : Option Addr) (c : Nat) : Acc := ⟨.slice ad l.length c, 1, 3, l.map (D.int .i64)⟩

mutual
/-- What work.same answers, and what stands for the variables then. -/
def isF (fx : Int) : Tm → Tm → Int → List Int → Bool × List Int
  | .mk o h n us, u, k, l => if (o ≠ u.op ∨ h ≠ u.hd) ∨ us.length ≠ u.args.length then (false, l) else
      match (if o = 4 ∧ h = 1 then varF fx n u.n k l else (n == u.n, l)) with
      | (false, l') => (false, l')
      | (true, l') => isL fx o us u.args 0 k l'
def isL (fx : Int) : Int → List Tm → List Tm → Nat → Int → List Int → Bool × List Int
  | o, u :: us, v :: vs, i, k, l => match isF fx u v (k + under o i) l with
    | (false, l') => (false, l')
    | (true, l') => isL fx o us vs (i + 1) k l'
  | _, _, _, _, _, l => (true, l)
 end
theorem isF_eq (fx : Int) (t u : Tm) (k : Int) (l : List Int) : isF fx t u k l = if (t.op ≠ u.op ∨ t.hd ≠ u.hd) ∨ t.args.length ≠ u.args.length then (false, l) else
      match (if t.op = 4 ∧ t.hd = 1 then varF fx t.n u.n k l else (t.n == u.n, l)) with
      | (false, l') => (false, l')
      | (true, l') => isL fx t.op t.args u.args 0 k l' := by cases t; rfl

mutual
theorem isF_length (fx : Int) : ∀ (t u : Tm) (k : Int) (l : List Int), (isF fx t u k l).2.length = l.length
  | .mk o h n us, u, k, l => by
    simp only [isF]
    split
    · rfl
    · have h1 : (if o = 4 ∧ h = 1 then varF fx n u.n k l else (n == u.n, l)).2.length = l.length := by
        split
        · exact varF_length ..
        · rfl
      split
      · rename_i l' he; rw [he] at h1; exact h1
      · rename_i l' he; rw [he] at h1; exact (isL_length fx o us u.args 0 k l').trans h1
theorem isL_length (fx : Int) : ∀ (o : Int) (us vs : List Tm) (i : Nat) (k : Int) (l : List Int), (isL fx o us vs i k l).2.length = l.length
  | o, u :: us, v :: vs, i, k, l => by
    simp only [isL]
    have h1 := isF_length fx u v (k + under o i) l
    split
    · rename_i l' he; rw [he] at h1; exact h1
    · rename_i l' he; rw [he] at h1; exact (isL_length fx o us vs (i + 1) k l').trans h1
  | _, [], _, _, _, l => by simp [isL]
  | _, _ :: _, [], _, _, l => by simp [isL]
 end

theorem okAll_n {t : Tm} (h : okAll t = true) : 0 ≤ t.n ∧ t.n ≤ 9999 := by
  cases t with
  | mk o hd n us =>
    simp only [okAll, Bool.and_eq_true] at h
    have h1 := h.1
    simp only [Tm.n]
    unfold okNode at h1
    split at h1
    · simp at h1; omega
    · split at h1
      · simp at h1; omega
      · split at h1
        · simp at h1; omega
        · split at h1
          · simp at h1; omega
          · cases h1

/-- What trussref15.is answers. -/
def isB (fx : Int) (t u : Tm) (many : Nat) : Bool := (isF fx t u 0 (List.replicate many (-1))).1

end Go.Proofs.YtpibdcjdamibdaaGreatDoor
end

/-! Ref15B -/
section
namespace Go.Proofs.YtpibdcjdamibdaaGreatDoor
open Go.Tr Go
set_option maxRecDepth 10000

section
variable (fx : Int) (a : Tm)

mutual
/-- What trussref15.less answers, below k stripped binders. -/
def lessF : Tm → Nat → Nat → Bool
  | .mk o h n us, k, many => if o = 3 then lessU us k many else
      if (((0 < k ∧ fx = 0) ∨ o ≠ 4) ∨ h = 3) ∨ (h = 1 ∧ n ≥ (many + k : Nat) + fx) then false else anyF us (many + k)
def lessU : List Tm → Nat → Nat → Bool
  | [], _, _ => false
  | u :: _, k, many => lessF u (k + 1) many
def anyF : List Tm → Nat → Bool
  | [], _ => false
  | u :: us, many => (isB fx a u many || (if (0 < (stripF u).2 ∧ fx = 0) ∨ (stripF u).1.op ≠ 4 then false else (decide (0 < (stripF u).2) && isB fx a (stripF u).1 (many + (stripF u).2)) || lessF u 0 many)) || anyF us many
 end

def inB (u : Tm) (many : Nat) : Bool := isB fx a u many || (if (0 < (stripF u).2 ∧ fx = 0) ∨ (stripF u).1.op ≠ 4 then false else (decide (0 < (stripF u).2) && isB fx a (stripF u).1 (many + (stripF u).2)) || lessF fx a u 0 many)

theorem anyF_cons (u : Tm) (us : List Tm) (many : Nat) : anyF fx a (u :: us) many = (inB fx a u many || anyF fx a us many) := by simp only [anyF, inB]

theorem lessF_no {t : Tm} (h : t.op ≠ 3) (k many : Nat) : lessF fx a t k many = if (((0 < k ∧ fx = 0) ∨ t.op ≠ 4) ∨ t.hd = 3) ∨ (t.hd = 1 ∧ t.n ≥ (many + k : Nat) + fx) then false else anyF fx a t.args (many + k) := by
  cases t with
  | mk o hd n us =>
    simp only [Tm.op] at h
    simp only [lessF, if_neg h, Tm.op, Tm.hd, Tm.n, Tm.args]
    rfl

theorem lessF_strip : ∀ (n : Nat) (t : Tm), t.height ≤ n → lamOK t = true → ∀ (k many : Nat), lessF fx a t k many = lessF fx a (stripF t).1 (k + (stripF t).2) many
  | 0, t, hn, _, _, _ => by have := Tm.height_eq t; omega
  | n + 1, t, hn, hl, k, many => by
    by_cases ho : t.op = 3
    · obtain ⟨v, vs, hargs⟩ : ∃ v vs, t.args = v :: vs := List.exists_cons_of_ne_nil (lamOK_ne hl ho)
      have hvm : v ∈ t.args := by rw [hargs]; simp
      have hht := Tm.height_le hvm
      have hhe := Tm.height_eq t
      have ih := lessF_strip n v (by omega) (lamOK_arg hl hvm) (k + 1) many
      rw [stripF_lam ho hargs]
      cases t with
      | mk o hd m us =>
        simp only [Tm.op] at ho
        simp only [Tm.args] at hargs
        subst ho hargs
        simp only [lessF, if_true, lessU]
        rw [ih]
        congr 1
        omega
    · rw [stripF_no ho]; rfl
end

theorem stripF_spec : ∀ (n : Nat) (t : Tm), t.height ≤ n → okAll t = true → (stripF t).1.op ≠ 3 ∧ (stripF t).1.height + (stripF t).2 ≤ t.height ∧ okAll (stripF t).1 = true
  | 0, t, hn, _ => by have := Tm.height_eq t; omega
  | n + 1, t, hn, hl => by
    by_cases ho : t.op = 3
    · obtain ⟨v, vs, hargs⟩ : ∃ v vs, t.args = v :: vs := List.exists_cons_of_ne_nil (lamOK_ne (okAll_lamOK t hl) ho)
      have hvm : v ∈ t.args := by rw [hargs]; simp
      have hht := Tm.height_le hvm
      have hhe := Tm.height_eq t
      have ih := stripF_spec n v (by omega) (okAll_arg hl hvm)
      rw [stripF_lam ho hargs]
      exact ⟨ih.1, by simp only; omega, ih.2.2⟩
    · rw [stripF_no ho]
      exact ⟨ho, Nat.le_refl _, hl⟩

theorem okL_mem : ∀ {ds : List D} {d : D}, okL ds → d ∈ ds → okD d
  | [], d, _, h => by simp at h
  | e :: ds, d, h, hm => by
    simp only [okL] at h
    rcases List.mem_cons.1 hm with r | r
    · subst r; exact h.1
    · exact okL_mem h.2 r

theorem ok_strip : ∀ (n : Nat) (t : Tm), t.height ≤ n → okD (.sl 4 (Tm.encL t.args)) → okD (.sl 4 (Tm.encL (stripF t).1.args))
  | 0, t, hn, _ => by have := Tm.height_eq t; omega
  | n + 1, t, hn, hk => by
    by_cases ho : t.op = 3
    · cases hargs : t.args with
      | nil =>
        cases t with
        | mk o hd m us =>
          simp only [Tm.op] at ho
          simp only [Tm.args] at hargs
          subst ho hargs
          simpa [stripF, stripL] using hk
      | cons v vs =>
        have hvm : v ∈ t.args := by rw [hargs]; simp
        have hht := Tm.height_le hvm
        have hhe := Tm.height_eq t
        rw [stripF_lam ho hargs]
        refine ok_strip n v (by omega) ?_
        simp only [okD] at hk
        have := okL_mem hk.2 (d := v.enc) (by rw [Tm.encL_eq]; exact List.mem_map_of_mem hvm)
        rw [Tm.enc_eq] at this
        simp only [okD, okL] at this
        exact this.2.2.2.1
    · rw [stripF_no ho]; exact hk

/-- What trussref15.Compare answers. -/
def cmpF (fx : Int) (a b : Tm) : Int := if sameF a b = true then 1 else if lessF fx a b 0 0 = true then 2 else 0

end Go.Proofs.YtpibdcjdamibdaaGreatDoor
end

/-! Orders -/
section
namespace Go.Proofs.YtpibdcjdamibdaaGreatDoor
open Go.Tr Go
set_option maxRecDepth 10000

inductive Od where
  | mk (op n : Int) (parts : List Od)

def Od.op : Od → Int | .mk o _ _ => o
def Od.n : Od → Int | .mk _ n _ => n
def Od.parts : Od → List Od | .mk _ _ p => p

mutual
def Od.enc : Od → D
  | .mk o n p => .agg [.int .i64 o, .int .i64 n, .sl 3 (Od.encL p)]
def Od.encL : List Od → List D
  | [] => []
  | t :: ts => t.enc :: Od.encL ts
 end

theorem Od.encL_eq : ∀ (l : List Od), Od.encL l = l.map Od.enc
  | [] => rfl
  | t :: ts => by simp only [Od.encL, List.map_cons, Od.encL_eq ts]
theorem Od.encL_length (l : List Od) : (Od.encL l).length = l.length := by simp [Od.encL_eq]
theorem Od.encL_get {l : List Od} {i : Nat} {t : Od} (h : l[i]? = some t) : (Od.encL l)[i]? = some (.agg [.int .i64 t.op, .int .i64 t.n, .sl 3 (Od.encL t.parts)]) := by
  rw [Od.encL_eq, List.getElem?_map, h]; cases t; rfl

theorem Od.ind {motive : Od → Prop} (h : ∀ t, (∀ x ∈ t.parts, motive x) → motive t) (t : Od) : motive t := by
  induction t using Od.rec (motive_2 := fun ts => ∀ x ∈ ts, motive x) with
  | nil => rename_i x hx; cases hx
  | cons t ts ih1 ih2 => rename_i x hx; rcases List.mem_cons.1 hx with e | e; (subst e; exact ih1); exact ih2 x e
  | mk op n parts ih => exact h _ ih

abbrev odS (t : Od) (a : Option Addr) (c : Nat) : SV := .agg [.v (.int .i64 t.op), .v (.int .i64 t.n), .v (.slice a (Od.encL t.parts).length c)]
abbrev odR (t : Od) (a : Option Addr) (c : Nat) : Value × D := (.slice a (Od.encL t.parts).length c, .sl 3 (Od.encL t.parts))

mutual
def simF : Od → Od → Bool
  | .mk o _ us, b => o == b.op && (us.length == b.parts.length && simL us b.parts)
def simL : List Od → List Od → Bool
  | u :: us, v :: vs => simF u v && simL us vs
  | _, _ => true
 end
theorem simF_eq (a b : Od) : simF a b = (a.op == b.op && (a.parts.length == b.parts.length && simL a.parts b.parts)) := by cases a; rfl

/-- What trusslaw15.free answers. -/
def lawFree (t : Tm) (n : Int) : Bool := isProper t && match (headsF 1 t 0 []).getLast? with
  | none => true
  | some k => decide (k < n)
end Go.Proofs.YtpibdcjdamibdaaGreatDoor
end

/-! LawA -/
section
namespace Go.Proofs.YtpibdcjdamibdaaGreatDoor
open Go.Tr Go
set_option maxRecDepth 10000

theorem lookI_putI (n v : Int) : ∀ (l : List (Int × Int)) (m : Int), lookI (putI n v l) m = if m = n then some v else lookI l m
  | [], m => by simp only [putI, lookI]
  | (k, u) :: r, m => by
    simp only [putI]
    by_cases h : n = k
    · subst h
      rw [if_pos rfl]
      simp only [lookI]
      split <;> rfl
    · rw [if_neg h]
      simp only [lookI, lookI_putI n v r m]
      by_cases h2 : m = k
      · rw [if_pos h2, if_neg (by omega)]; simp [h2]
      · rw [if_neg h2]; simp [h2]

/-- What is chosen, as the program and the reference keep it. -/
structure Rel (st : Nat) (ch : List (Int × Int)) (l : List Int) : Prop where
  len : l.length = st
  none : ∀ y : Nat, y < st → lookI ch y = none → l.getD y 0 = -1
  some : ∀ (y : Nat) (x : Int), y < st → lookI ch y = some x → l.getD y 0 = x ∧ 0 ≤ x

theorem getD_set {l : List Int} {i j : Nat} {x : Int} (h : i < l.length) : (l.set i x).getD j 0 = if j = i then x else l.getD j 0 := by
  simp only [List.getD_eq_getElem?_getD, List.getElem?_set]
  by_cases hj : i = j
  · subst hj; simp [h]
  · rw [if_neg hj, if_neg (by omega)]

theorem Rel.put {st : Nat} {ch : List (Int × Int)} {l : List Int} (h : Rel st ch l) (y : Nat) (x : Int) (hy : y < st) (hx : 0 ≤ x) : Rel st (putI y x ch) (l.set y x) := by
  have hl := h.len
  refine ⟨by rw [List.length_set, hl], ?_, ?_⟩
  · intro z hz hn
    rw [lookI_putI] at hn
    split at hn
    · cases hn
    · rename_i hne
      rw [getD_set (by omega), if_neg (by omega)]
      exact h.none z hz hn
  · intro z w hz hn
    rw [lookI_putI] at hn
    split at hn
    · rename_i he
      cases hn
      rw [getD_set (by omega), if_pos (by omega)]
      exact ⟨rfl, hx⟩
    · rename_i hne
      rw [getD_set (by omega), if_neg (by omega)]
      exact h.some z w hz hn

theorem head_var {st : Nat} {ch : List (Int × Int)} {l : List Int} (h : Rel st ch l) (fx n m k : Int) (hn0 : 0 ≤ n) (hn1 : n ≤ 9999) (hm0 : 0 ≤ m) (hm1 : m ≤ 9999) (hk0 : 0 ≤ k) (hk1 : k ≤ 1000000) (hst : st ≤ 1000000) :
    (headF st fx 4 1 n m k ch = none ∧ (varF fx n m k l).1 = false) ∨ ∃ ch' l', headF st fx 4 1 n m k ch = some ch' ∧ varF fx n m k l = (true, l') ∧ Rel st ch' l' := by
  have hl := h.len
  have w1 : IntKind.i64.wrap (n - k) = n - k := wrap_i64 (by omega) (by omega)
  have w2 : IntKind.i64.wrap (m - k) = m - k := wrap_i64 (by omega) (by omega)
  have w3 : IntKind.i64.wrap (m - k - st) = m - k - st := wrap_i64 (by omega) (by omega)
  by_cases hkm : k ≤ m
  · have eH : headF st fx 4 1 n m k ch = if n - k < 0 then none
      else if st ≤ m - k ∧ n - k ≠ m - k - st then none
      else if m - k < st then
        if fx ≤ n - k then none
        else match lookI ch (m - k) with
          | some old => if old ≠ n - k then none else some (putI (m - k) (n - k) ch)
          | none => some (putI (m - k) (n - k) ch)
      else some ch := by
      simp only [headF, w1, w2, w3]
      rw [if_pos ⟨trivial, trivial, hkm⟩]
      rfl
    have eV : varF fx n m k l = if m - k ≥ l.length then (decide (n ≥ k) && (n - k == m - k - l.length), l) else
      if (n - k < 0 ∨ n - k ≥ fx) ∨ (l.getD (m - k).toNat 0 ≥ 0 ∧ l.getD (m - k).toNat 0 ≠ n - k) then (false, l) else (true, l.set (m - k).toNat (n - k)) := by
      rw [varF, if_neg (by omega)]
    by_cases hx : n - k < 0
    · rw [if_pos hx] at eH
      refine .inl ⟨eH, ?_⟩
      by_cases hy : m - k ≥ l.length
      · rw [eV, if_pos hy]
        simp; omega
      · rw [eV, if_neg hy, if_pos (.inl (.inl hx))]
    · rw [if_neg hx] at eH
      by_cases hy : m - k ≥ l.length
      · rw [if_pos hy] at eV
        by_cases he : n - k = m - k - st
        · rw [if_neg (by omega), if_neg (by omega)] at eH
          refine .inr ⟨ch, l, eH, ?_, h⟩
          have e1 : decide (n ≥ k) = true := decide_eq_true (by omega)
          have e2 : (n - k == m - k - (l.length : Int)) = true := by rw [beq_iff_eq]; omega
          rw [eV, e1, e2]; rfl
        · rw [if_pos ⟨by omega, he⟩] at eH
          refine .inl ⟨eH, ?_⟩
          have e2 : (n - k == m - k - (l.length : Int)) = false := by rw [beq_eq_false_iff_ne]; omega
          rw [eV, e2, Bool.and_false]
      · rw [if_neg hy] at eV
        rw [if_neg (by omega), if_pos (by omega)] at eH
        have hyn : m - k = ((m - k).toNat : Int) := by omega
        have hlt : (m - k).toNat < st := by omega
        by_cases hfx : fx ≤ n - k
        · rw [if_pos hfx] at eH
          rw [if_pos (.inl (.inr hfx))] at eV
          exact .inl ⟨eH, by rw [eV]⟩
        · rw [if_neg hfx] at eH
          rw [hyn] at eH eV
          simp only [Int.toNat_natCast] at eV
          cases hlk : lookI ch ((m - k).toNat : Int) with
          | none =>
            have hz := h.none _ hlt hlk
            rw [hlk] at eH
            rw [hz, if_neg (by omega)] at eV
            exact .inr ⟨_, _, eH, eV, h.put _ _ hlt (by omega)⟩
          | some old =>
            obtain ⟨hz, hz0⟩ := h.some _ _ hlt hlk
            rw [hlk] at eH
            simp only at eH
            rw [hz] at eV
            by_cases ho : old = n - k
            · rw [if_neg (by simpa using ho)] at eH
              rw [if_neg (by omega)] at eV
              exact .inr ⟨_, _, eH, eV, h.put _ _ hlt (by omega)⟩
            · rw [if_pos ho] at eH
              rw [if_pos (.inr ⟨hz0, ho⟩)] at eV
              exact .inl ⟨eH, by rw [eV]⟩
  · have eH : headF st fx 4 1 n m k ch = if n ≠ m then none else some ch := by rw [headF, if_neg (by rintro ⟨_, _, h3⟩; exact hkm h3)]
    have eV : varF fx n m k l = (n == m, l) := by rw [varF, if_pos (by omega)]
    by_cases he : n = m
    · rw [if_neg (by simpa using he)] at eH
      exact .inr ⟨ch, l, eH, by rw [eV]; simp [he], h⟩
    · rw [if_pos he] at eH
      exact .inl ⟨eH, by rw [eV]; simpa using he⟩

theorem head_no {st fx : Int} {o h n m k : Int} {ch : List (Int × Int)} (hno : ¬ (o = 4 ∧ h = 1)) : headF st fx o h n m k ch = if n ≠ m then none else some ch := by
  rw [headF, if_neg (by rintro ⟨h1, h2, _⟩; exact hno ⟨h1, h2⟩)]

mutual
theorem match_is (fx : Int) (st : Nat) (hst : st ≤ 1000000) : ∀ (t u : Tm) (k : Int) (ch : List (Int × Int)) (l : List Int), okAll t = true → okAll u = true → 0 ≤ k → k + t.height ≤ 1000000 → Rel st ch l →
    ((matchF st fx t u k ch).1 = false ∧ (isF fx t u k l).1 = false) ∨ ∃ ch' l', matchF st fx t u k ch = (true, ch') ∧ isF fx t u k l = (true, l') ∧ Rel st ch' l'
  | .mk o h n us, u, k, ch, l, hot, hou, hk0, hk1, hR => by
    have htn := okAll_n hot
    have hun := okAll_n hou
    simp only [Tm.n] at htn
    have hus : okAllL us = true := by simp only [okAll, Bool.and_eq_true] at hot; exact hot.2
    have huu : okAllL u.args = true := by cases u; simp only [okAll, Bool.and_eq_true] at hou; exact hou.2
    have hth : Tm.heightL us + 1 = (Tm.mk o h n us).height := by simp only [Tm.height]
    simp only [matchF, isF]
    by_cases h1 : o ≠ u.op ∨ h ≠ u.hd ∨ us.length ≠ u.args.length
    · rw [if_pos h1, if_pos (by rcases h1 with h1 | h1 | h1; exact .inl (.inl h1); exact .inl (.inr h1); exact .inr h1)]
      exact .inl ⟨rfl, rfl⟩
    · rw [if_neg h1, if_neg (by rintro ((h2 | h2) | h2); exact h1 (.inl h2); exact h1 (.inr (.inl h2)); exact h1 (.inr (.inr h2)))]
      by_cases h2 : o = 4 ∧ h = 1
      · rw [if_pos h2]
        obtain ⟨rfl, rfl⟩ := h2
        rcases head_var hR fx n u.n k htn.1 htn.2 hun.1 hun.2 hk0 (by omega) hst with ⟨e1, e2⟩ | ⟨ch', l', e1, e2, hR'⟩
        · rw [e1]
          cases hv : varF fx n u.n k l with
          | mk b l' =>
            rw [hv] at e2
            simp only at e2
            subst e2
            exact .inl ⟨rfl, rfl⟩
        · rw [e1, e2]
          exact match_isL fx st hst 4 us u.args 0 k ch' l' hus huu hk0 (by omega) hR'
      · rw [if_neg h2, head_no h2]
        by_cases h3 : n = u.n
        · rw [if_neg (by simpa using h3)]
          have : (n == u.n) = true := by simpa using h3
          rw [this]
          exact match_isL fx st hst o us u.args 0 k ch l hus huu hk0 (by omega) hR
        · rw [if_pos h3]
          have : (n == u.n) = false := by simpa using h3
          rw [this]
          exact .inl ⟨rfl, rfl⟩
theorem match_isL (fx : Int) (st : Nat) (hst : st ≤ 1000000) : ∀ (o : Int) (us vs : List Tm) (i : Nat) (k : Int) (ch : List (Int × Int)) (l : List Int), okAllL us = true → okAllL vs = true → 0 ≤ k → k + 1 + Tm.heightL us ≤ 1000000 → Rel st ch l →
    ((matchL st fx o us vs i k ch).1 = false ∧ (isL fx o us vs i k l).1 = false) ∨ ∃ ch' l', matchL st fx o us vs i k ch = (true, ch') ∧ isL fx o us vs i k l = (true, l') ∧ Rel st ch' l'
  | o, u :: us, v :: vs, i, k, ch, l, hus, hvs, hk0, hk1, hR => by
    simp only [okAllL, Bool.and_eq_true] at hus hvs
    simp only [Tm.heightL] at hk1
    have hu := under_le o i
    have w1 : IntKind.i64.wrap (k + under o i) = k + under o i := wrap_i64 (by omega) (by omega)
    simp only [matchL, isL, w1]
    rcases match_is fx st hst u v (k + under o i) ch l hus.1 hvs.1 (by omega) (by omega) hR with ⟨e1, e2⟩ | ⟨ch', l', e1, e2, hR'⟩
    · cases hm : matchF st fx u v (k + under o i) ch with
      | mk b1 ch1 =>
        cases hi : isF fx u v (k + under o i) l with
        | mk b2 l1 =>
          rw [hm] at e1; rw [hi] at e2
          simp only at e1 e2
          subst e1 e2
          exact .inl ⟨rfl, rfl⟩
    · rw [e1, e2]
      exact match_isL fx st hst o us vs (i + 1) k ch' l' hus.2 hvs.2 hk0 (by omega) hR'
  | _, [], vs, _, _, ch, l, _, _, _, _, hR => by simp only [matchL, isL]; exact .inr ⟨ch, l, rfl, rfl, hR⟩
  | _, _ :: _, [], _, _, ch, l, _, _, _, _, hR => by simp only [matchL, isL]; exact .inr ⟨ch, l, rfl, rfl, hR⟩
 end

theorem Rel.start (st : Nat) : Rel st [] (List.replicate st (-1)) := by
  refine ⟨by simp, ?_, ?_⟩
  · intro y hy _
    simp [List.getD_eq_getElem?_getD, hy]
  · intro y x _ h; cases h

/-- A visit asks what the reference asks. -/
theorem vis_is (fx : Int) (a x : Tm) (st : Nat) (ha : okAll a = true) (hx : okAll x = true) (hh : a.height ≤ 1000000) (hst : st ≤ 1000000) : (matchF st fx a x 0 []).1 = isB fx a x st := by
  rcases match_is fx st hst a x 0 [] _ ha hx (by omega) (by omega) (Rel.start st) with ⟨e1, e2⟩ | ⟨ch', l', e1, e2, _⟩
  · rw [e1, isB, e2]
  · rw [e1, isB, e2]

section
variable (fx : Int) (a : Tm) (ha : okAll a = true) (hh : a.height ≤ 1000000) (hf0 : 0 ≤ fx) (hf1 : fx ≤ 1000000)
include ha hh

theorem vMatch_is (x : Tm) (st : Nat) (hx : okAll x = true) (hst : st ≤ 1000000) : vMatch fx a false x st = (!isB fx a x st, isB fx a x st) := by
  simp only [vMatch, vis_is fx a x st ha hx hh hst, Bool.false_or]

include hf0 hf1

theorem walk_less : ∀ (N : Nat),
    (∀ (us : List Tm) (many : Nat), Tm.heightL us ≤ N → okAllL us = true → many + Tm.heightL us ≤ 1000000 → argsG (vMatch fx a) fx us many false = (!anyF fx a us many, anyF fx a us many)) ∧
    (∀ (u : Tm) (k many : Nat), u.height ≤ N → okAll u = true → u.op ≠ 3 → many + k + u.height ≤ 1000000 → ¬ (0 < k ∧ fx = 0) → walkG (vMatch fx a) fx u ((many + k : Nat) : Int) false = (!lessF fx a u k many, lessF fx a u k many)) := by
  intro N
  induction N with
  | zero =>
    refine ⟨?_, ?_⟩
    · intro us many hN hus hm
      cases us with
      | nil => simp [argsG, anyF]
      | cons u us => have := Tm.height_pos u; simp only [Tm.heightL] at hN; omega
    · intro u k many hN; have := Tm.height_pos u; omega
  | succ N ih =>
    obtain ⟨ihA, ihW⟩ := ih
    -- a TApp
    have hW : ∀ (u : Tm) (k many : Nat), u.height ≤ N + 1 → okAll u = true → u.op ≠ 3 → many + k + u.height ≤ 1000000 → ¬ (0 < k ∧ fx = 0) → walkG (vMatch fx a) fx u ((many + k : Nat) : Int) false = (!lessF fx a u k many, lessF fx a u k many) := by
      intro u k many hN hou h3 hm hkf
      have hun := okAll_n hou
      have hhe := Tm.height_eq u
      have w1 : IntKind.i64.wrap (((many + k : Nat) : Int) + fx) = ((many + k : Nat) : Int) + fx := wrap_i64 (by omega) (by omega)
      rw [walkG, lessF_no fx a h3]
      by_cases hs : shutF fx u.op u.hd u.n ((many + k : Nat) : Int) = true
      · rw [if_pos hs]
        simp only [shutF, w1, Bool.or_eq_true, bne_iff_ne, beq_iff_eq, Bool.and_eq_true, decide_eq_true_eq] at hs
        rw [if_pos]
        · rfl
        · rcases hs with hs | hs | hs
          · exact .inl (.inl (.inr hs))
          · exact .inl (.inr hs)
          · exact .inr hs
      · rw [if_neg hs]
        simp only [shutF, w1, Bool.or_eq_true, bne_iff_ne, beq_iff_eq, Bool.and_eq_true, decide_eq_true_eq] at hs
        rw [if_neg]
        · have hus : okAllL u.args = true := by cases u; simp only [okAll, Bool.and_eq_true] at hou; exact hou.2
          exact ihA u.args (many + k) (by omega) hus (by omega)
        · rintro (((h | h) | h) | h)
          · exact hkf h
          · exact hs (.inl h)
          · exact hs (.inr (.inl h))
          · exact hs (.inr (.inr h))
    refine ⟨?_, hW⟩
    intro us
    induction us with
    | nil => intro many _ _ _; simp [argsG, anyF]
    | cons u us ihu =>
      intro many hN hus hm
      simp only [Tm.heightL] at hN
      simp only [okAllL, Bool.and_eq_true] at hus
      obtain ⟨hou, hus⟩ := hus
      simp only [Tm.heightL] at hm
      have hrest := ihu many (by omega) hus (by omega)
      obtain ⟨hs1, hs2, hs3⟩ := stripF_spec u.height u (Nat.le_refl _) hou
      have hin := (innerG_strip (vMatch fx a) fx u.height u (Nat.le_refl _) (okAll_lamOK u hou) 0 many false).1
      have hls := lessF_strip fx a u.height u (Nat.le_refl _) (okAll_lamOK u hou) 0 many
      rw [Nat.zero_add] at hin hls
      rw [innerG_no _ _ hs1] at hin
      -- what is visited of u
      have hq : inB fx a u many = (isB fx a u many || (innerG (vMatch fx a) fx u 0 many false).2) ∧ (innerG (vMatch fx a) fx u 0 many false).1 = !(innerG (vMatch fx a) fx u 0 many false).2 := by
        rw [hin, inB, hls]
        generalize (stripF u).1 = m at hs1 hs2 hs3 ⊢
        generalize (stripF u).2 = k at hs2 ⊢
        have w1 : IntKind.i64.wrap ((many : Int) + k) = ((many + k : Nat) : Int) := by rw [wrap_i64 (by omega) (by omega)]; omega
        rw [w1]
        by_cases hkf : 0 < k ∧ fx = 0
        · rw [if_pos hkf, if_pos (.inl hkf)]
          exact ⟨rfl, rfl⟩
        · rw [if_neg hkf]
          have hw := hW m k many (by omega) hs3 hs1 (by omega) hkf
          by_cases ho : m.op = 4
          · rw [if_neg (by rintro (h | h); exact hkf h; exact h ho)]
            by_cases hk : 0 < k
            · rw [if_pos ⟨hk, ho⟩, vMatch_is fx a ha hh m (many + k) hs3 (by omega), decide_eq_true hk, Bool.true_and]
              cases isB fx a m (many + k) with
              | true => simp
              | false => simp only [Bool.not_false, Bool.false_or]; rw [hw]; simp
            · rw [if_neg (fun h => hk h.1), decide_eq_false hk]
              simp only [Bool.false_and, Bool.false_or]
              rw [hw]; simp
          · rw [if_pos (.inr ho), if_neg (fun h => ho h.2)]
            simp only
            rw [hw, lessF_no fx a hs1, if_pos (.inl (.inl (.inr ho)))]
            simp
      simp only [argsG]
      rw [vMatch_is fx a ha hh u many hou (by omega), anyF_cons]
      cases hi : isB fx a u many with
      | true =>
        rw [hi] at hq
        rw [hq.1]; simp
      | false =>
        rw [hi] at hq
        simp only [Bool.not_false, Bool.false_or] at hq ⊢
        cases hg : innerG (vMatch fx a) fx u 0 many false with
        | mk b s =>
          rw [hg] at hq
          simp only at hq
          obtain ⟨e1, e2⟩ := hq
          subst e2
          rw [e1]
          cases s with
          | true => rfl
          | false => simpa using hrest

/-- The program's answer is the reference's. -/
theorem compareF_eq (b : Tm) (hb : okAll b = true) (hhb : b.height ≤ 1000) : compareF fx a b = cmpF fx a b := by
  obtain ⟨hs1, hs2, hs3⟩ := stripF_spec b.height b (Nat.le_refl _) hb
  have hls := lessF_strip fx a b.height b (Nat.le_refl _) (okAll_lamOK b hb) 0 0
  rw [Nat.zero_add] at hls
  unfold compareF cmpF
  rw [hls]
  by_cases hsm : sameF a b = true
  · rw [if_pos hsm, if_pos hsm]
  · rw [if_neg hsm, if_neg hsm]
    generalize (stripF b).1 = m at hs1 hs2 hs3 ⊢
    generalize (stripF b).2 = k at hs2 ⊢
    by_cases hkf : 0 < k ∧ fx = 0
    · have hno : lessF fx a m k 0 = false := by rw [lessF_no fx a hs1, if_pos (.inl (.inl (.inl hkf)))]
      rw [if_pos hkf, hno]
      rfl
    · rw [if_neg hkf]
      have hw := (walk_less fx a ha hh hf0 hf1 m.height).2 m k 0 (Nat.le_refl _) hs3 hs1 (by omega) hkf
      rw [Nat.zero_add] at hw
      rw [hw]
end
end Go.Proofs.YtpibdcjdamibdaaGreatDoor
end

/-! LawB -/
section
namespace Go.Proofs.YtpibdcjdamibdaaGreatDoor
open Go.Tr Go
set_option maxRecDepth 10000

mutual
/-- The numbers of the free variables of a term, as they stand. -/
def fvF : Tm → Int → List Int
  | .mk o h n us, k => (if o = 4 ∧ h = 1 ∧ n ≥ k then [n - k] else []) ++ fvL o us 0 k
def fvL : Int → List Tm → Nat → Int → List Int
  | _, [], _, _ => []
  | o, u :: us, i, k => fvF u (k + under o i) ++ fvL o us (i + 1) k
 end

theorem mem_putF (x n : Int) : ∀ (l : List Int), x ∈ putF l n ↔ x = n ∨ x ∈ l
  | [] => by simp [putF]
  | y :: l => by
    simp only [putF]
    split
    · simp only [List.mem_cons, mem_putF x n l]
      constructor
      · rintro (h | h | h)
        · exact .inr (.inl h)
        · exact .inl h
        · exact .inr (.inr h)
      · rintro (h | h | h)
        · exact .inr (.inl h)
        · exact .inl h
        · exact .inr (.inr h)
    · split
      · rename_i h1 h2
        subst h2
        simp
      · simp

theorem putF_sorted (n : Int) : ∀ (l : List Int), l.Pairwise (· < ·) → (putF l n).Pairwise (· < ·)
  | [], _ => by simp [putF]
  | y :: l, h => by
    simp only [putF]
    rw [List.pairwise_cons] at h
    split
    · rename_i h1
      rw [List.pairwise_cons]
      refine ⟨?_, putF_sorted n l h.2⟩
      intro z hz
      rw [mem_putF] at hz
      rcases hz with rfl | hz
      · exact h1
      · exact h.1 z hz
    · split
      · rw [List.pairwise_cons]; exact h
      · rename_i h1 h2
        rw [List.pairwise_cons, List.pairwise_cons]
        refine ⟨?_, h⟩
        intro z hz
        rcases List.mem_cons.1 hz with rfl | hz
        · omega
        · have := h.1 z hz; omega

mutual
theorem heads_mem (x : Int) : ∀ (t : Tm) (k : Int) (l : List Int), okAll t = true → 0 ≤ k → k + t.height ≤ 1000000 → (x ∈ headsF 1 t k l ↔ x ∈ l ∨ x ∈ fvF t k)
  | .mk o h n us, k, l, hok, hk0, hk1 => by
    have hn := okAll_n hok
    simp only [Tm.n] at hn
    have hus : okAllL us = true := by simp only [okAll, Bool.and_eq_true] at hok; exact hok.2
    have hth : Tm.heightL us + 1 = (Tm.mk o h n us).height := by simp only [Tm.height]
    have w1 : IntKind.i64.wrap (n - k) = n - k := wrap_i64 (by omega) (by omega)
    simp only [headsF, fvF, w1, List.mem_append]
    rw [heads_memL x o us 0 k _ hus hk0 (by omega)]
    by_cases h1 : o = 4 ∧ h = 1
    · rw [if_pos h1, if_neg (by simp)]
      by_cases h2 : n ≥ k
      · rw [if_pos h2, if_pos ⟨h1.1, h1.2, h2⟩, mem_putF]
        simp only [List.mem_singleton, or_assoc]
        constructor
        · rintro (h | h | h)
          · exact .inr (.inl h)
          · exact .inl h
          · exact .inr (.inr h)
        · rintro (h | h | h)
          · exact .inr (.inl h)
          · exact .inl h
          · exact .inr (.inr h)
      · rw [if_neg h2, if_neg (fun h => h2 h.2.2)]
        simp
    · rw [if_neg h1, if_neg (fun h => h1 ⟨h.1, h.2.1⟩)]
      simp
theorem heads_memL (x : Int) : ∀ (o : Int) (us : List Tm) (i : Nat) (k : Int) (l : List Int), okAllL us = true → 0 ≤ k → k + 1 + Tm.heightL us ≤ 1000000 → (x ∈ headsL 1 o us i k l ↔ x ∈ l ∨ x ∈ fvL o us i k)
  | o, [], i, k, l, _, _, _ => by simp [headsL, fvL]
  | o, u :: us, i, k, l, hok, hk0, hk1 => by
    simp only [okAllL, Bool.and_eq_true] at hok
    simp only [Tm.heightL] at hk1
    have hu := under_le o i
    simp only [headsL, fvL, List.mem_append]
    rw [heads_memL x o us (i + 1) k _ hok.2 hk0 (by omega), heads_mem x u _ l hok.1 (by omega) (by omega), or_assoc]
 end

mutual
theorem heads_sorted : ∀ (t : Tm) (k : Int) (l : List Int), l.Pairwise (· < ·) → (headsF 1 t k l).Pairwise (· < ·)
  | .mk o h n us, k, l, hl => by
    simp only [headsF]
    refine heads_sortedL o us 0 k _ ?_
    split
    · split
      · exact putF_sorted _ _ hl
      · split
        · exact putF_sorted _ _ hl
        · exact hl
    · exact hl
theorem heads_sortedL : ∀ (o : Int) (us : List Tm) (i : Nat) (k : Int) (l : List Int), l.Pairwise (· < ·) → (headsL 1 o us i k l).Pairwise (· < ·)
  | o, [], i, k, l, hl => by simpa [headsL] using hl
  | o, u :: us, i, k, l, hl => by
    simp only [headsL]
    exact heads_sortedL o us (i + 1) k _ (heads_sorted u _ l hl)
 end

theorem mem_putAt (x n : Int) (v : Value) : ∀ (l : List (Int × Value)), x ∈ (putAt n v l).map (·.1) ↔ x = n ∨ x ∈ l.map (·.1)
  | [] => by simp [putAt]
  | (k, u) :: r => by
    simp only [putAt]
    split
    · rename_i h
      subst h
      simp
    · simp only [List.map_cons, List.mem_cons, mem_putAt x n v r]
      constructor
      · rintro (h | h | h)
        · exact .inr (.inl h)
        · exact .inl h
        · exact .inr (.inr h)
      · rintro (h | h | h)
        · exact .inr (.inl h)
        · exact .inl h
        · exact .inr (.inr h)

theorem noteStep_eq (o h n : Int) (us : List Tm) (k : Int) (l : List (Int × Value)) : noteStep freeOf l (.mk o h n us) k = if o = 4 ∧ h = 1 ∧ k ≤ n then putAt (IntKind.i64.wrap (n - k)) (.bool true) l else l := by
  have hc : ((Tm.mk o h n us).op = 4 ∧ (freeOf (.mk o h n us) k).2 = true) ↔ (o = 4 ∧ h = 1 ∧ k ≤ n) := by
    simp [freeOf, Tm.op, Tm.hd, Tm.n]
    intro _ _
    exact decide_eq_true_iff
  rw [noteStep]
  by_cases h1 : o = 4 ∧ h = 1 ∧ k ≤ n
  · rw [if_pos h1, if_pos (hc.2 h1)]; rfl
  · rw [if_neg h1, if_neg (fun h => h1 (hc.1 h))]

mutual
theorem walk_mem (x : Int) : ∀ (t : Tm) (k : Int) (l : List (Int × Value)), okAll t = true → 0 ≤ k → k + t.height ≤ 1000000 → (x ∈ (walkF (noteStep freeOf) t l k).map (·.1) ↔ x ∈ l.map (·.1) ∨ x ∈ fvF t k)
  | .mk o h n us, k, l, hok, hk0, hk1 => by
    have hn := okAll_n hok
    simp only [Tm.n] at hn
    have hus : okAllL us = true := by simp only [okAll, Bool.and_eq_true] at hok; exact hok.2
    have hth : Tm.heightL us + 1 = (Tm.mk o h n us).height := by simp only [Tm.height]
    have w1 : IntKind.i64.wrap (n - k) = n - k := wrap_i64 (by omega) (by omega)
    simp only [walkF, fvF, List.mem_append]
    rw [walk_memL x o us 0 k _ hus hk0 (by omega)]
    rw [noteStep_eq, w1]
    have hge : (o = 4 ∧ h = 1 ∧ n ≥ k) = (o = 4 ∧ h = 1 ∧ k ≤ n) := rfl
    simp only [hge]
    by_cases h1 : o = 4 ∧ h = 1 ∧ k ≤ n
    · rw [if_pos h1, if_pos h1, mem_putAt]
      simp only [List.mem_singleton, or_assoc]
      constructor
      · rintro (h | h | h)
        · exact .inr (.inl h)
        · exact .inl h
        · exact .inr (.inr h)
      · rintro (h | h | h)
        · exact .inr (.inl h)
        · exact .inl h
        · exact .inr (.inr h)
    · rw [if_neg h1, if_neg h1]
      simp
theorem walk_memL (x : Int) : ∀ (o : Int) (us : List Tm) (i : Nat) (k : Int) (l : List (Int × Value)), okAllL us = true → 0 ≤ k → k + 1 + Tm.heightL us ≤ 1000000 → (x ∈ (walkL (noteStep freeOf) o us i l k).map (·.1) ↔ x ∈ l.map (·.1) ∨ x ∈ fvL o us i k)
  | o, [], i, k, l, _, _, _ => by simp [walkL, fvL]
  | o, u :: us, i, k, l, hok, hk0, hk1 => by
    simp only [okAllL, Bool.and_eq_true] at hok
    simp only [Tm.heightL] at hk1
    have hu := under_le o i
    simp only [walkL, fvL, List.mem_append]
    rw [walk_memL x o us (i + 1) k _ hok.2 hk0 (by omega), walk_mem x u _ l hok.1 (by omega) (by omega), or_assoc]
 end

/-- The last number of an ascending list is its greatest. -/
theorem last_lt (n : Int) (l : List Int) (h : l.Pairwise (· ≤ ·)) : ((match l.getLast? with
  | none => true
  | some k => decide (k < n)) = true) ↔ ∀ x ∈ l, x < n := by
  cases hl : l.getLast? with
  | none =>
    rw [List.getLast?_eq_none_iff] at hl
    subst hl
    simp
  | some k =>
    obtain ⟨ys, rfl⟩ := List.getLast?_eq_some_iff.1 hl
    rw [List.pairwise_append] at h
    simp only [decide_eq_true_eq]
    constructor
    · intro hk x hx
      rcases List.mem_append.1 hx with hx | hx
      · have := h.2.2 x hx k (by simp); omega
      · simp at hx; omega
    · intro hk
      exact hk k (by simp)

theorem sorted_mem (x : Int) (l : List Int) : x ∈ sorted l ↔ x ∈ l := by
  simp only [sorted, List.mem_mergeSort]

theorem sorted_le (l : List Int) : (sorted l).Pairwise (· ≤ ·) := by
  have tr : ∀ a b c : Int, decide (a ≤ b) = true → decide (b ≤ c) = true → decide (a ≤ c) = true := by simp; omega
  have tot : ∀ a b : Int, (decide (a ≤ b) || decide (b ≤ a)) = true := by simp; omega
  exact (List.pairwise_mergeSort tr tot l).imp (by simp)

/-- An object among n variables. -/
theorem isObjectF_iff (t : Tm) (n : Int) : isObjectF t n = true ↔ isProper t = true ∧ ∀ x ∈ fvF t 0, x < n := by
  have key := last_lt n (numsOf freeOf t) (sorted_le _)
  rw [isObjectF, Bool.and_eq_true]
  constructor
  · rintro ⟨hp, h⟩
    have hpp := (isProper_iff t).1 hp
    refine ⟨hp, fun x hx => key.1 h x ?_⟩
    rw [numsOf, sorted_mem, walk_mem x t 0 [] hpp.1 (by omega) (by omega)]
    exact .inr hx
  · rintro ⟨hp, h⟩
    have hpp := (isProper_iff t).1 hp
    refine ⟨hp, key.2 fun x hx => h x ?_⟩
    rw [numsOf, sorted_mem, walk_mem x t 0 [] hpp.1 (by omega) (by omega)] at hx
    rcases hx with hx | hx
    · simp at hx
    · exact hx

theorem lawFree_iff (t : Tm) (n : Int) : lawFree t n = true ↔ isProper t = true ∧ ∀ x ∈ fvF t 0, x < n := by
  have key := last_lt n (headsF 1 t 0 []) ((heads_sorted t 0 [] List.Pairwise.nil).imp (fun h => Int.le_of_lt h))
  rw [lawFree, Bool.and_eq_true]
  constructor
  · rintro ⟨hp, h⟩
    have hpp := (isProper_iff t).1 hp
    refine ⟨hp, fun x hx => key.1 h x ?_⟩
    rw [heads_mem x t 0 [] hpp.1 (by omega) (by omega)]
    exact .inr hx
  · rintro ⟨hp, h⟩
    have hpp := (isProper_iff t).1 hp
    refine ⟨hp, key.2 fun x hx => h x ?_⟩
    rw [heads_mem x t 0 [] hpp.1 (by omega) (by omega)] at hx
    rcases hx with hx | hx
    · simp at hx
    · exact hx

theorem lawFree_eq (t : Tm) (n : Int) : lawFree t n = isObjectF t n := by rw [Bool.eq_iff_iff, lawFree_iff, isObjectF_iff]

/-- The program's answer is what the document asks for. -/
theorem compareE_eq (n fx : Int) (a b : Tm) : compareE n fx a b = if isScopeF n fx = true ∧ lawFree a n = true ∧ lawFree b n = true then (cmpF fx a b, 0) else (0, 2) := by
  rw [compareE, lawFree_eq, lawFree_eq]
  by_cases h : isScopeF n fx = true ∧ isObjectF a n = true ∧ isObjectF b n = true
  · rw [if_pos h, if_pos h]
    have ha := (isProper_iff a).1 (isObjectF_proper h.2.1)
    have hb := (isProper_iff b).1 (isObjectF_proper h.2.2)
    have hs := h.1
    simp only [isScopeF, Bool.and_eq_true, decide_eq_true_eq] at hs
    rw [compareF_eq fx a ha.1 (by omega) (by omega) (by omega) b hb.1 (by omega)]
  · rw [if_neg h, if_neg h]
end Go.Proofs.YtpibdcjdamibdaaGreatDoor
end

/-! FwR -/
section
namespace Go.Tr
open Go
set_option linter.unusedSimpArgs false

theorem list_of {α : Type} {p : Nat → α → Prop} : ∀ (n : Nat), (∀ i, i < n → ∃ a, p i a) → ∃ l : List α, l.length = n ∧ ∀ i, i < n → ∃ a, l[i]? = some a ∧ p i a
  | 0, _ => ⟨[], rfl, fun i h => by omega⟩
  | n + 1, h => by
    obtain ⟨l, hl, hp⟩ := list_of n (fun i hi => h i (by omega))
    obtain ⟨a, ha⟩ := h n (by omega)
    refine ⟨l ++ [a], by simp [hl], fun i hi => ?_⟩
    by_cases hin : i < n
    · obtain ⟨b, h1, h2⟩ := hp i hin
      exact ⟨b, by rw [List.getElem?_append_left (by omega)]; exact h1, h2⟩
    · have : i = n := by omega
      subst this
      exact ⟨a, by rw [List.getElem?_append_right (by omega)]; simp [hl], ha⟩

theorem RepE.of_index {J : Nat → Prop} {w : World} {k : Nat} : ∀ {ds : List D} {cs : List Value}, (∀ (i : Nat) (d : D), ds[i]? = some d → i * k + k ≤ cs.length ∧ RepC J w d ((cs.drop (i * k)).take k)) → RepE J w k ds cs
  | [], _, _ => by simp [RepE]
  | d :: ds, cs, h => by
    simp only [RepE]
    have h0 := h 0 d rfl
    simp only [Nat.zero_mul, Nat.zero_add, List.drop_zero] at h0
    refine ⟨h0.1, h0.2, RepE.of_index fun i e hi => ?_⟩
    have h1 := h (i + 1) e (by simpa using hi)
    rw [Nat.add_mul, Nat.one_mul] at h1
    refine ⟨by rw [List.length_drop]; omega, ?_⟩
    rw [List.drop_drop, Nat.add_comm k]
    exact h1.2

theorem cells_take {w : World} {b off n k : Nat} {c : Array Value} {T : TypeId} {fz : Nat × Nat} {cs : List Value} (hb : w.heap[b]? = some (.cells c T fz)) (h : w.cells? 0 ((⟨b, off, none⟩ : Addr).add n) k = some cs) :
    (k = 0 ∨ n + k ≤ (c.toList.drop off).length) ∧ ((c.toList.drop off).drop n).take k = cs := by
  obtain ⟨_, hl, hc⟩ := World.cells?_some h
  have he : ((c.toList.drop off).drop n).take k = cs := by
    apply List.ext_getElem?
    intro j
    rw [List.getElem?_take]
    by_cases hj : j < k
    · rw [if_pos hj]
      have := hc j hj
      rw [addr_add, addr_add] at this
      simp only [World.cell?, hb] at this
      rw [← this]
      simp [List.getElem?_drop, Nat.add_assoc]
    · rw [if_neg hj, List.getElem?_eq_none (by omega)]
  refine ⟨?_, he⟩
  have := congrArg List.length he
  rw [List.length_take, List.length_drop, hl] at this
  omega

theorem mem_weightsAll {H : Type} {P : Program} {e : TypeId} {d : DataW H} {y : Nat} (hy : y ∈ d.weights P e) : ∀ {l : List (DataW H)}, d ∈ l → y ∈ DataW.weightsAll P e l
  | [], h => by simp at h
  | x :: l, h => by
    simp only [DataW.weightsAll, List.mem_append]
    rcases List.mem_cons.1 h with r | r
    · subst r; exact .inl hy
    · exact .inr (mem_weightsAll hy r)

section
variable {H : Type} {enc : TypeId × Value → H} {P : Program} {W : World}

/-- A slice reads as a list of data, if its elements read as such. -/
theorem read_slice {t e : TypeId} {k : Nat} (ht : P.underlying t = some (.slice e)) (hk : P.cellsOf e = k) (hk0 : 0 < k) (hby : 1 ≤ P.bytesOf e) {α : Type} (en : α → D) (n : Nat)
    (hel : ∀ m, m < n → ∀ cs x, DataW.trod enc P W 0 (fun _ => true) true m e cs = some x → (∀ y ∈ x.1.weights P e, y ≤ reachBytes) → ∃ a, RepC (fun _ => True) W (en a) cs)
    {cs : List Value} {x : DataW H × List MemPlace} (h : DataW.trod enc P W 0 (fun _ => true) true n t cs = some x) (hw : ∀ y ∈ x.1.weights P t, y ≤ reachBytes) :
    ∃ (l : List α) (a : Option Addr) (c : Nat), cs = [.slice a l.length c] ∧ RepC (fun _ => True) W (.sl k (l.map en)) cs := by
  rcases DataW.trod_slice ht h with ⟨rfl, rfl⟩ | ⟨a, len, cap, elems, rest, m, rfl, rfl, rfl, _, hlc, hcm, hlen, hels, _, _⟩
  · exact ⟨[], none, 0, rfl, none, 0, rfl, ⟨Nat.le_refl _, Nat.zero_le _⟩, .inl rfl⟩
  simp only [DataW.weights, ht] at hw
  have hsz : len ≤ 1152921504606846976 := by
    have h1 := hw _ (List.mem_cons_self ..)
    simp only [List.length_map, hlen] at h1
    have h2 : len ≤ (len + rest.length) * P.bytesOf e := Nat.le_trans (Nat.le_add_right _ _) (Nat.le_mul_of_pos_right _ hby)
    have h3 : reachBytes = 140737488351232 := rfl
    omega
  have hex : ∀ i, i < len → ∃ b : α, ∃ cs', W.cells? 0 (a.add (i * k)) k = some cs' ∧ RepC (fun _ => True) W (en b) cs' := by
    intro i hi
    have h1 := hels i hi
    rw [hk, List.getElem?_eq_getElem (by omega)] at h1
    obtain ⟨cs', h2, h3⟩ := Option.bind_eq_some_iff.1 h1
    obtain ⟨b, hb⟩ := hel m (by omega) cs' _ h3 (fun y hy => hw y (List.mem_cons_of_mem _ (List.mem_append.2 (.inl (mem_weightsAll hy (List.mem_map_of_mem (List.getElem_mem (by omega))))))))
    exact ⟨b, cs', h2, hb⟩
  obtain ⟨l, hl, hp⟩ := list_of len hex
  refine ⟨l, some a, cap, by rw [hl], some a, cap, by rw [List.length_map, hl], ⟨by rw [List.length_map, hl]; exact hlc, by rw [List.length_map, hl]; exact hsz⟩, ?_⟩
  by_cases hz : len = 0
  · left
    have : l = [] := List.eq_nil_of_length_eq_zero (by omega)
    rw [this]; rfl
  right
  -- the block
  obtain ⟨b0, _, cs0, h0, _⟩ := hp 0 (by omega)
  obtain ⟨_, hl0, hc0⟩ := World.cells?_some h0
  have hc := hc0 0 hk0
  rw [List.getElem?_eq_getElem (by omega)] at hc
  have ha0 : (a.add (0 * k)).add 0 = a := by simp [Addr.add]
  rw [ha0] at hc
  simp only [World.cell?] at hc
  split at hc
  · rename_i c T fz hb
    split at hc
    · cases hc
    · rename_i hs
      have hsp : a.spot = none := by cases hq : a.spot with | none => rfl | some v => simp [hq] at hs
      obtain ⟨bk, off, sp⟩ := a
      simp only at hsp
      subst hsp
      refine ⟨bk, off, c, T, fz, rfl, trivial, hb, RepE.of_index fun i d hi => ?_⟩
      rw [List.getElem?_map] at hi
      have hil : i < len := by
        rcases Nat.lt_or_ge i len with h1 | h1
        · exact h1
        · rw [List.getElem?_eq_none (by omega)] at hi; cases hi
      obtain ⟨b', h1, cs', h2, h3⟩ := hp i hil
      rw [h1] at hi
      cases hi
      obtain ⟨h4, h5⟩ := cells_take hb h2
      rw [h5]
      exact ⟨by omega, h3⟩
  · cases hc

/-- What a call that turns nothing leaves. -/
theorem keptBut_of_ext {W W' : World} (h : Ext [] W W') (may : MemPlace → Prop) : W.keptBut W' may := by
  refine ⟨h.os, h.output, fun i hi => ?_⟩
  rw [h.block i hi (by simp)]
  exact (World.keptBut_refl W may).2.2 i hi

theorem frozen_of_ext {W W' : World} (h : Ext [] W W') {a : Addr} (ha : a.block < W.heap.size) : W'.frozen? a = W.frozen? a := by
  simp only [World.frozen?, h.block a.block ha (by simp)]

theorem sameAt_of_ext {W W' : World} (h : Ext [] W W') {p : MemPlace} (hp : p.block < W.heap.size) : W.sameAt W' p := by
  cases p with
  | cell b off =>
    simp only [World.sameAt, World.cell?]
    rw [h.block b hp (by simp)]
  | map b => exact h.block b hp (by simp)

theorem trodAll_carry {W' : World} {base : Nat} {spare : Nat → Bool} {held : Bool} : ∀ {ts : List TypeId} {vs : List Value} {ds : List (DataW H)} {ps : List MemPlace}, DataW.TrodAll enc P W base spare held ts vs ds ps → (∀ p ∈ ps, W.sameAt W' p) → DataW.TrodAll enc P W' base spare held ts vs ds ps
  | [], [], [], _, h, _ => h
  | _ :: _, _ :: _, _ :: _, _, ⟨p, q, ⟨n, h1⟩, h2, e⟩, hs => ⟨p, q, ⟨n, DataW.trod_carry n _ _ _ h1 (fun x hx => hs x (by rw [e]; exact List.mem_append_left _ hx))⟩, trodAll_carry h2 (fun x hx => hs x (by rw [e]; exact List.mem_append_right _ hx)), e⟩

theorem trodAll_len {base : Nat} {spare : Nat → Bool} {held : Bool} : ∀ {ts : List TypeId} {vs : List Value} {ds : List (DataW H)} {ps : List MemPlace}, DataW.TrodAll enc P W base spare held ts vs ds ps → ds.length = ts.length
  | [], [], [], _, _ => rfl
  | _ :: _, _ :: _, _ :: _, _, ⟨_, _, _, h2, _⟩ => by simp only [List.length_cons, trodAll_len h2]

/-- A law's row: the call answers true and turns nothing. -/
theorem post_true {f : Func} {s : ChangeSpec} {fresh handsOn again : Bool} {t : TypeId} {W W' : World} {args : Array Value} {ds gs : List (DataW H)} {before : List MemPlace} (K : Kids P (· < P.types.size)) (hz : ∀ t e, t < P.types.size → P.underlying t = some (.slice e) → 0 < P.cellsOf e)
    (hW : DataW.Whole enc P f.params.toList s.vars false W args.toList ds gs before) (hv : s.vars = []) (hT : ∀ t ∈ f.params.toList, t < P.types.size)
    (hs : ∀ ds : List (DataW H), ds.length = f.params.size → s.fn H ds = { results := [.lit (.bool true)], args := ds }) (hr : f.resultTypes = #[t]) (ht : P.underlying t = some .bool) (hx : Ext [] W W') :
    s.post enc P f false fresh handsOn again W args (.bool true) W' := by
  have hW0 := hW
  obtain ⟨p, q, hA, hV, rfl, hfz, hnd⟩ := hW0
  rw [hv] at hV
  obtain ⟨rfl, rfl⟩ := Go.ChangeShapes.trodVars_none hV
  have hlen : (ds ++ ([] : List (DataW H))).length = f.params.size := by
    rw [List.append_nil]
    have := trodAll_len hA
    simpa using this
  have hfn := hs (ds ++ []) hlen
  rw [List.append_nil] at hW
  have hlt : ∀ x ∈ p, x.block < W.heap.size := fun x hx => hW.lt x hx
  have hcar := trodAll_carry hA (fun x hx' => sameAt_of_ext hx (hlt x hx'))
  have hargs : ∀ sp : Nat → Bool, (∀ x ∈ p, sp x.block = true) → DataW.TrodAll enc P W' 0 sp true f.params.toList args.toList ds p := fun sp hsp => hcar.respare K hz hT hsp
  have hres : ∀ (b : Nat) (sp : Nat → Bool) (hd : Bool), DataW.TrodAll enc P W' b sp hd f.resultTypes.toList ((Value.bool true).resultList f.resultTypes.size) [.lit (.bool true)] [] := by
    intro b sp hd
    rw [hr]
    exact trodAll_cons_mk (Go.RowKit.shut_bool ht _) Go.ChangeShapes.trodAll_mk0
  have hok : ∀ (j : Nat) (t' : TypeId) (r : Value), f.resultTypes[j]? = some t' → ((Value.bool true).resultList f.resultTypes.size)[j]? = some r → Value.okWide P W' .any 0 t' r := Go.RowKit.ok_one hr rfl (Go.RowKit.okWide_bool_mk ht _)
  have hold : ∀ x ∈ p, (fun b => decide (b < W.heap.size)) x.block = true := fun x hx => by simpa using hlt x hx
  refine ⟨ds, [], p, [], p, [], by rw [hv]; simpa [hv] using hW, ?_, ?_, ?_, World.keptBut_mono (fun x hx => ⟨hx, .inr (.inl hx)⟩) (keptBut_of_ext hx (· ∈ p)), fun _ => ?_⟩
  · rw [hfn]; exact hres _ _ _
  · rw [hfn, List.append_nil]; exact hargs _ hold
  · rw [hfn, hv]; exact rfl
  · refine ⟨hok, _, [], ([] ++ p) ++ [], ⟨[] ++ p, [], Go.ChangeShapes.trodAll_append (hargs _ (fun _ _ => rfl)) (hres _ _ _), by rw [hv]; exact rfl, rfl, ?_, by intro h; cases h⟩, ?_⟩
    · intro b off hp
      have hp : MemPlace.cell b off ∈ p := by simpa using hp
      rw [frozen_of_ext hx (hlt _ hp)]
      exact hfz b off (by simpa using hp)
    · intro y hy _
      simpa using hy
end

/-- A contract of a call that writes nothing, as the statements want it. -/
theorem Pure.calls {P : Program} {f : FuncId} {args : List SV} {rs : List (Value × D)} {R : SV → List (Value × D) → Prop} (h : Pure P (.val (.fn (.func f) [] [])) args rs R) (hc : ∀ ag w, (callFunc f ag).run P w = .ok (.enter f ag) w) {W : World} (hr : ∀ p ∈ rs, Rep (fun _ => True) W p.1 p.2) :
    Calls P f (SV.denL [] args).toArray W (fun e W' => ∃ r out, e = .returned (r.den []) ∧ R r out ∧ Ext [] W W') := by
  have hm : mutS [] (⟨[], [], rs⟩ : St) = [] := rfl
  have hG : Good (fun _ => True) [] ⟨[], [], rs⟩ W := by
    refine ⟨rfl, by simp [hm], by simp [hm], by simp [hm], by simp, by simp, by simp, ?_⟩
    intro p hp
    rw [hm]
    exact (hr p hp).map (fun b _ _ => ⟨⟨trivial, by simp⟩, rfl⟩)
  obtain ⟨nx, h1, h2⟩ := h (fun _ => True) [] W hG (fun _ _ => trivial)
  simp only [Cal.sem, SV.den, SV.denL, Deferred.ofValue, Sem.run_bind, Sem.run_pure, Result.andThen_ok, invoke] at h1
  have h3 := hc (SV.denL [] args).toArray W
  have h4 : nx = .enter f (SV.denL [] args).toArray := by
    have h5 := h1
    simp only [List.append_nil, Array.append_empty, Array.empty_append] at h5
    rw [h3] at h5
    cases h5
    rfl
  subst h4
  refine (callsIn_wide (n := 0)).1 (CallsIn.mono h2 ?_)
  rintro e w' ⟨ℓ', o, S', rfl, _, _, hx, hG', _, r, out, rfl, rfl, hwf, hR⟩
  have hl : ℓ' = [] := by have := hG'.len; simpa using this
  subst hl
  exact ⟨r, out, rfl, hR, hx⟩
end Go.Tr
end

/-! Reads -/
section
namespace Go.Proofs.YtpibdcjdamibdaaGreatDoor
open Go.Tr Go
set_option maxRecDepth 10000

theorem cells3 : Tryz.prog.cellsOf 3 = 1 := by kernel_rfl
theorem cells22 : Tryz.prog.cellsOf 24 = 1 := by kernel_rfl
theorem cells24 : Tryz.prog.cellsOf 26 = 4 := by kernel_rfl
theorem bytes24 : 1 ≤ Tryz.prog.bytesOf 26 := by decide +kernel

section
variable {H : Type} {enc : TypeId × Value → H} {W : World}

theorem repC_tm {W : World} {t : Tm} {a : Option Addr} {c : Nat} (h : RepC (fun _ => True) W (.sl 4 (Tm.encL t.args)) [.slice a (Tm.encL t.args).length c]) : RepC (fun _ => True) W t.enc [.int .i64 t.op, .int .i64 t.hd, .int .i64 t.n, .slice a (Tm.encL t.args).length c] := by
  rw [Tm.enc_eq]
  exact ⟨[.int .i64 t.op], _, rfl, rfl, [.int .i64 t.hd], _, rfl, rfl, [.int .i64 t.n], _, rfl, rfl, [.slice a (Tm.encL t.args).length c], [], rfl, h, rfl⟩

theorem read_term : ∀ (n : Nat) (cs : List Value) (x : DataW H × List MemPlace), DataW.trod enc Tryz.prog W 0 (fun _ => true) true n 26 cs = some x → (∀ y ∈ x.1.weights Tryz.prog 26, y ≤ reachBytes) →
    ∃ (t : Tm) (a : Option Addr) (c : Nat), cs = [.int .i64 t.op, .int .i64 t.hd, .int .i64 t.n, .slice a (Tm.encL t.args).length c] ∧ RepC (fun _ => True) W (.sl 4 (Tm.encL t.args)) [.slice a (Tm.encL t.args).length c] := by
  intro n
  induction n using Nat.strongRecOn with
  | ind n ih =>
  intro cs x h hw
  obtain ⟨xs, m, rfl, rfl, hl, hlen, hf⟩ := DataW.trod_struct Tryz.underlying26 h
  match xs, hlen with
  | [y0, y1, y2, y3], _ =>
  rw [cells24] at hl
  match cs, hl with
  | [v0, v1, v2, v3], _ =>
  have h0 : DataW.trod enc Tryz.prog W 0 (fun _ => true) true m 3 (([v0, v1, v2, v3].drop 0).take (Tryz.prog.cellsOf 3)) = some y0 := hf 0 _ rfl
  have h1 : DataW.trod enc Tryz.prog W 0 (fun _ => true) true m 3 (([v0, v1, v2, v3].drop 1).take (Tryz.prog.cellsOf 3)) = some y1 := hf 1 _ rfl
  have h2 : DataW.trod enc Tryz.prog W 0 (fun _ => true) true m 3 (([v0, v1, v2, v3].drop 2).take (Tryz.prog.cellsOf 3)) = some y2 := hf 2 _ rfl
  have h3 : DataW.trod enc Tryz.prog W 0 (fun _ => true) true m 24 (([v0, v1, v2, v3].drop 3).take (Tryz.prog.cellsOf 24)) = some y3 := hf 3 _ rfl
  simp only [cells3, cells22, List.drop_zero, List.drop_succ_cons, List.take_succ_cons, List.take_zero] at h0 h1 h2 h3
  obtain ⟨o, e0, rfl, _⟩ := DataW.trod_int Tryz.underlying3 h0
  obtain ⟨hd, e1, rfl, _⟩ := DataW.trod_int Tryz.underlying3 h1
  obtain ⟨k, e2, rfl, _⟩ := DataW.trod_int Tryz.underlying3 h2
  simp only [List.cons.injEq, and_true] at e0 e1 e2
  subst e0 e1 e2
  obtain ⟨l, a, c, e3, hr⟩ := read_slice Tryz.underlying24 cells24 (by decide) bytes24 Tm.enc m (fun m' hm' cs' x' h' hw' => by
    obtain ⟨t, a, c, rfl, hr⟩ := ih m' (by omega) cs' x' h' hw'
    exact ⟨t, repC_tm hr⟩) h3 (fun y hy => hw y (by
      simp only [DataW.weights, Tryz.underlying26, List.map_cons, List.map_nil, DataW.weightsEach, List.append_nil, List.nil_append]
      exact hy))
  simp only [List.cons.injEq, and_true] at e3
  subst e3
  refine ⟨.mk o hd k l, a, c, ?_, ?_⟩
  · simp only [Tm.op, Tm.hd, Tm.n, Tm.args, Tm.encL_length]
  · simp only [Tm.args, Tm.encL_eq, List.length_map] at hr ⊢
    exact hr

/-- A term that is handed in. -/
theorem arg_term {base : Nat} {v : Value} {d : DataW H} {p : List MemPlace} (hok : Value.okWide Tryz.prog W .any base 26 v) (h : DataW.Trod enc Tryz.prog W 0 (fun _ => true) true 26 v d p) (hw : ∀ y ∈ d.weights Tryz.prog 26, y ≤ reachBytes) :
    ∃ (t : Tm) (a : Option Addr) (c : Nat), v = (tmS t a c).den [] ∧ Rep (fun _ => True) W (tmR t a c).1 (tmR t a c).2 := by
  obtain ⟨cs, rfl, _⟩ := Go.WideShapes.okWide_struct Tryz.underlying26 hok
  obtain ⟨n, hn⟩ := h
  obtain ⟨t, a, c, he, hr⟩ := read_term n _ _ hn hw
  refine ⟨t, a, c, ?_, hr⟩
  simp only [Value.cells] at he
  have : cs = #[.int .i64 t.op, .int .i64 t.hd, .int .i64 t.n, .slice a (Tm.encL t.args).length c] := by
    rw [← Array.toList_inj, he]
  rw [this]
  rfl

theorem arg_int {base : Nat} {v : Value} {d : DataW H} {p : List MemPlace} (hok : Value.okWide Tryz.prog W .any base 3 v) (h : DataW.Trod enc Tryz.prog W 0 (fun _ => true) true 3 v d p) :
    ∃ n : Int, v = (iS n).den [] ∧ (Lit.int .i64 n).wf = true := by
  obtain ⟨n, rfl, _, _, hwf⟩ := Go.ChangeShapes.open_int Tryz.underlying3 hok h
  exact ⟨n, rfl, hwf⟩
end
end Go.Proofs.YtpibdcjdamibdaaGreatDoor
end

/-! RowKit -/
section
namespace Go.Proofs.YtpibdcjdamibdaaGreatDoor
open Go.Tr Go
open Go.ChangeShapes Go.WideShapes Go.ChangeAt Go.RowKit
set_option maxRecDepth 10000

theorem own : ownKnob Tryz.prog.godebug = none := by kernel_rfl
theorem kids : Kids Tryz.prog (· < Tryz.prog.types.size) := kids_rows (by kernel_rfl) (by kernel_rfl)
theorem full : ∀ t e, t < Tryz.prog.types.size → Tryz.prog.underlying t = some (.slice e) → 0 < Tryz.prog.cellsOf e := slices_full_of Tryz.prog (by kernel_rfl)

theorem all_le {l : List Nat} (h : l.all (· ≤ reachBytes) = true) : ∀ y ∈ l, y ≤ reachBytes := fun y hy => by simpa using List.all_eq_true.1 h y hy

section
variable {H : Type} {enc : TypeId × Value → H} {W : World}

theorem args_four {base : Nat} {args : Array Value} {ds gs : List (DataW H)} {p : List MemPlace} (hval : ∀ (j : Nat) t v, (#[3, 3, 26, 26] : Array TypeId)[j]? = some t → args[j]? = some v → Value.okWide Tryz.prog W .any base t v)
    (hA : DataW.TrodAll enc Tryz.prog W 0 (fun _ => true) true [3, 3, 26, 26] args.toList ds p) (hsz : (DataW.weightsEach Tryz.prog ([3, 3, 26, 26] ++ []) (ds ++ gs)).all (· ≤ reachBytes) = true) :
    ∃ (n fx : Int) (t u : Tm) (a1 a2 : Option Addr) (c1 c2 : Nat), args = (SV.denL [] [iS n, iS fx, tmS t a1 c1, tmS u a2 c2]).toArray ∧ ∀ r ∈ [tmR t a1 c1, tmR u a2 c2], Rep (fun _ => True) W r.1 r.2 := by
  obtain ⟨v0, vs0, d0, ds0, p0, q0, ha0, rfl, rfl, h0, r0⟩ := trodAll_cons hA
  obtain ⟨v1, vs1, d1, ds1, p1, q1, rfl, rfl, rfl, h1, r1⟩ := trodAll_cons r0
  obtain ⟨v2, vs2, d2, ds2, p2, q2, rfl, rfl, rfl, h2, r2⟩ := trodAll_cons r1
  obtain ⟨v3, vs3, d3, ds3, p3, q3, rfl, rfl, rfl, h3, r3⟩ := trodAll_cons r2
  obtain ⟨rfl, rfl, rfl⟩ := trodAll_nil r3
  obtain rfl : args = #[v0, v1, v2, v3] := by rw [← Array.toList_inj, ha0]
  have hw := all_le hsz
  simp only [List.append_nil, List.cons_append, List.nil_append, DataW.weightsEach, List.mem_append] at hw
  obtain ⟨n, rfl, _⟩ := arg_int (hval 0 _ _ rfl rfl) h0
  obtain ⟨fx, rfl, _⟩ := arg_int (hval 1 _ _ rfl rfl) h1
  obtain ⟨t, a1, c1, rfl, e1⟩ := arg_term (hval 2 _ _ rfl rfl) h2 (fun y hy => hw y (.inr (.inr (.inl hy))))
  obtain ⟨u, a2, c2, rfl, e2⟩ := arg_term (hval 3 _ _ rfl rfl) h3 (fun y hy => hw y (.inr (.inr (.inr hy))))
  refine ⟨n, fx, t, u, a1, a2, c1, c2, rfl, ?_⟩
  intro r hr
  simp only [List.mem_cons, List.not_mem_nil, or_false] at hr
  rcases hr with rfl | rfl
  · exact e1
  · exact e2
end
end Go.Proofs.YtpibdcjdamibdaaGreatDoor
end

/-! FwS -/
section
namespace Go.Tr
open Go
set_option linter.unusedSimpArgs false

theorem bytes_get (s : ByteArray) (i : Nat) : s[i]? = s.data[i]? := by
  simp [getElem?_def]; rfl

theorem strEq (a b : ByteArray) : (a.toList == b.toList) = decide (a = b) := by
  rw [Bool.eq_iff_iff]
  simp only [ByteArray.toList_eq, beq_iff_eq, decide_eq_true_eq]
  constructor
  · intro h
    cases a; cases b
    simp only [Array.toList_inj] at h
    subst h; rfl
  · intro h; rw [h]

theorem strBeq (a b : ByteArray) : (a == b) = decide (a = b) := by
  cases a with | mk a => cases b with | mk b =>
  have h : ((⟨a⟩ : ByteArray) == ⟨b⟩) = (a == b) := by
    first | rfl | simp [BEq.beq]
  rw [h, Bool.eq_iff_iff]; simp

/-- s[i] of a string. -/
theorem at_index_str {P : Program} {tt : Tab} (hT : TTOK P tt) {t : TypeId} {x ix : SV} {S : St} {K : SV → St → Prop} {s : ByteArray} {i : Int} {kk : IntKind} {b : UInt8} (hx : x = .v (.string s)) (hi : ix = .v (.int kk i)) (ht : tt t = some .str) (h0 : 0 ≤ i) (hb : s.data.toList[i.toNat]? = some b)
    (h : K (.v (.int .u8 b.toNat)) S) : AtPure P (fun ℓ => Instr.index t (x.den ℓ) (ix.den ℓ)) S K := by
  subst hx hi
  refine AtPure.val _ rfl (fun ℓ w => ?_) h
  have hu := (hT t _ ht).2
  have hb' : s.data[i.toNat]? = some b := by rw [← Array.getElem?_toList]; exact hb
  simp only [Instr.index, SV.den, asIntOf, pure_bind, Sem.run_bind, run_underlying' hu, Result.andThen_ok, if_pos h0, bytes_get, hb', Sem.run_pure]

/-- The entries of a map with strings as keys, the n-th one laid as the n-th. -/
def entriesS : List (ByteArray × Value) → Nat → List MapEntry
  | [], _ => []
  | (k, v) :: r, i => ⟨.string k, v, i⟩ :: entriesS r (i + 1)

def mapS (l : List (ByteArray × Value)) : Obj := .map (entriesS l 0).toArray l.length

def lookS : List (ByteArray × Value) → ByteArray → Option Value
  | [], _ => none
  | (k, v) :: r, n => if n = k then some v else lookS r n

def putS (n : ByteArray) (v : Value) : List (ByteArray × Value) → List (ByteArray × Value)
  | [] => [(n, v)]
  | (k, u) :: r => if n = k then (k, v) :: r else (k, u) :: putS n v r

theorem entriesS_length : ∀ (l : List (ByteArray × Value)) (i : Nat), (entriesS l i).length = l.length
  | [], _ => rfl
  | _ :: r, i => by simp [entriesS, entriesS_length r]

theorem entriesS_append : ∀ (l l' : List (ByteArray × Value)) (i : Nat), entriesS (l ++ l') i = entriesS l i ++ entriesS l' (i + l.length)
  | [], l', i => by simp [entriesS]
  | (k, v) :: r, l', i => by
    simp only [List.cons_append, entriesS, entriesS_append r l', List.length_cons]
    congr 3; omega

theorem sameNow_str (a b : ByteArray) : Instr.sameNow .string (.string a) (.string b) = some (decide (a = b)) := by
  simp only [Instr.sameNow, strBeq]

theorem findNow_S (n : ByteArray) : ∀ (l : List (ByteArray × Value)) (i j : Nat), Instr.findNow .string (.string n) (entriesS l i) j =
    some (match l.findIdx? (fun p => n = p.1) with
      | some m => (l[m]?).map (fun p => (j + m, p.2))
      | none => none)
  | [], i, j => by simp [entriesS, Instr.findNow]
  | (k, v) :: r, i, j => by
    simp only [entriesS, Instr.findNow, sameNow_str]
    by_cases h : n = k
    · subst h; simp [List.findIdx?_cons]
    · simp only [h, decide_false, findNow_S n r (i + 1) (j + 1), List.findIdx?_cons]
      cases hf : r.findIdx? (fun p => n = p.1) with
      | none => simp
      | some m =>
        have e : j + 1 + m = j + (m + 1) := by omega
        simp [e]

theorem lookS_idx (n : ByteArray) : ∀ (l : List (ByteArray × Value)), lookS l n = match l.findIdx? (fun p => n = p.1) with
    | some m => (l[m]?).map (·.2)
    | none => none
  | [] => rfl
  | (k, v) :: r => by
    simp only [lookS, List.findIdx?_cons]
    by_cases h : n = k
    · subst h; simp
    · rw [if_neg h, lookS_idx n r]
      simp only [h, decide_false]
      cases hf : r.findIdx? (fun p => n = p.1) with
      | none => simp
      | some m => simp

theorem putS_none (n : ByteArray) (v : Value) : ∀ (l : List (ByteArray × Value)), l.findIdx? (fun p => n = p.1) = none → putS n v l = l ++ [(n, v)]
  | [], _ => rfl
  | (k, u) :: r, h => by
    simp only [List.findIdx?_cons] at h
    by_cases hk : n = k
    · subst hk; simp at h
    · simp only [putS, if_neg hk, List.cons_append]
      rw [putS_none n v r]
      cases hf : r.findIdx? (fun p => n = p.1) with
      | none => rfl
      | some m => rw [hf] at h; simp [hk] at h

theorem putS_some (n : ByteArray) (v : Value) : ∀ (l : List (ByteArray × Value)) (m i : Nat), l.findIdx? (fun p => n = p.1) = some m → (entriesS l i).modify m (fun e => { e with key := .string n, val := v }) = entriesS (putS n v l) i ∧ (putS n v l).length = l.length
  | [], m, i, h => by simp at h
  | (k, u) :: r, m, i, h => by
    simp only [List.findIdx?_cons] at h
    by_cases hk : n = k
    · subst hk
      simp at h
      subst h
      simp [putS, entriesS]
    · simp only [hk, decide_false] at h
      cases hf : r.findIdx? (fun p => n = p.1) with
      | none => rw [hf] at h; simp at h
      | some m' =>
        rw [hf] at h
        simp at h
        subst h
        obtain ⟨h1, h2⟩ := putS_some n v r m' (i + 1) hf
        simp only [putS, if_neg hk, entriesS, List.modify_succ_cons, h1, List.length_cons, h2, and_self]

theorem entriesS_key (l : List (ByteArray × Value)) (i m : Nat) : ((entriesS l i)[m]?).map (·.key) = (l[m]?).map (fun p => Value.string p.1) := by
  induction l generalizing i m with
  | nil => simp [entriesS]
  | cons p r ih =>
    obtain ⟨k, v⟩ := p
    cases m with
    | zero => simp [entriesS]
    | succ m => simpa [entriesS] using ih (i + 1) m

theorem run_checkKey_str {P : Program} {k : TypeId} (hk : P.underlying k = some .string) (b : Bool) (n : ByteArray) (w : World) : (Instr.checkKey b 10000 k (.string n)).run P w = .ok () w := by
  unfold Instr.checkKey
  simp [run_underlying hk]

/-- A map is made. -/
theorem at_makeMapS {P : Program} {t : TypeId} {S : St} {K : SV → St → Prop} (h : forceL (S.own ++ [.obj (mapS [])]) (fun own => putOwn S own (fun S' => K (.mp S.own.length) S'))) : AtSem P (fun ℓ => Instr.makeMap t (denO ℓ none)) S K := by
  rw [forceL_eq, putOwn_eq] at h
  refine at_makeMap .i64 ?_
  rw [forceL_eq, putOwn_eq]
  exact h

/-- m[n], with or without the word whether it is there. -/
theorem at_lookupS {P : Program} {tt : Tab} (hT : TTOK P tt) {t k e : TypeId} {x ix : SV} {S : St} {K : SV → St → Prop} {i : Nat} {n : ByteArray} {l : List (ByteArray × Value)} {ok : Bool} (z : Value) (ht : tt t = some (.map k e)) (hk : P.underlying k = some .string) (hz : ∀ w, (zeroValue e).run P w = .ok z w)
    (hx : x = .mp i) (hi : nth S.own i = some (.obj (mapS l))) (hix : ix = .v (.string n))
    (h1 : ∀ v, lookS l n = some v → K (if ok then .tup [.v v, .v (.bool true)] else .v v) S) (h2 : lookS l n = none → K (if ok then .tup [.v z, .v (.bool false)] else .v z) S) : AtSem P (fun ℓ => Instr.lookup t (x.den ℓ) (ix.den ℓ) ok) S K := by
  subst hx hix
  constructor
  intro J ℓ w hG hJ
  obtain ⟨b, hb, hk', hbl, hoff, hh⟩ := own_obj hG hi
  have hu := (hT t _ ht).2
  have hrun : (Instr.lookup t ((SV.mp i).den ℓ) ((SV.v (.string n)).den ℓ) ok).run P w = .ok ((match lookS l n with
      | some v => (if ok then SV.tup [.v v, .v (.bool true)] else .v v)
      | none => (if ok then .tup [.v z, .v (.bool false)] else .v z)).den ℓ) w := by
    simp only [Instr.lookup, SV.den, Sem.run_bind, run_underlying' hu, Result.andThen_ok]
    have hg := run_getMap (P := P) hh
    rw [hbl]
    simp only [Sem.run_bind, hg, Result.andThen_ok, Sem.run_pure]
    simp only [run_checkKey_str hk, Result.andThen_ok, Instr.findKey, Sem.run_bind, run_underlying hk, findNow_S]
    rw [lookS_idx]
    cases hf : l.findIdx? (fun p => n = p.1) with
    | none => simp [hz, Result.andThen]; cases ok <;> simp [SV.den, SV.denL]
    | some m =>
      have hlt : m < l.length := by
        obtain ⟨hlt, _⟩ := List.findIdx?_eq_some_iff_getElem.1 hf
        exact hlt
      simp only [List.getElem?_eq_getElem hlt, Option.map_some, Sem.run_pure, Result.andThen_ok]
      cases ok <;> simp [SV.den, SV.denL]
  cases hl : lookS l n with
  | some v =>
    rw [hl] at hrun
    exact ⟨_, ℓ, S, w, hrun, by cases ok <;> rfl, List.prefix_refl _, Ext.refl _ _, hG, fun b hb => .inl hb, h1 v hl⟩
  | none =>
    rw [hl] at hrun
    exact ⟨_, ℓ, S, w, hrun, by cases ok <;> rfl, List.prefix_refl _, Ext.refl _ _, hG, fun b hb => .inl hb, h2 hl⟩

/-- m[n] = x. -/
theorem at_mapPutS {P : Program} {tt : Tab} (hT : TTOK P tt) {t k e : TypeId} {x ix y : SV} {S : St} {K : SV → St → Prop} {i : Nat} {n : ByteArray} {l : List (ByteArray × Value)} (v : Value) (ht : tt t = some (.map k e)) (hk : P.underlying k = some .string)
    (hx : x = .mp i) (hi : nth S.own i = some (.obj (mapS l))) (hix : ix = .v (.string n)) (hy : ∀ ℓ, y.den ℓ = v)
    (h : forceL (setNth S.own i (.obj (mapS (putS n v l)))) (fun own => putOwn S own (fun S' => K undefS S'))) : AtSem P (fun ℓ => do Instr.mapUpdate t (x.den ℓ) (ix.den ℓ) (y.den ℓ); pure undef) S K := by
  subst hx hix
  rw [forceL_eq, putOwn_eq] at h
  constructor
  intro J ℓ w hG hJ
  obtain ⟨b, hb, hk', hbl, hoff, hh⟩ := own_obj hG hi
  have hu := (hT t _ ht).2
  have hrun : (Instr.mapUpdate t ((SV.mp i).den ℓ) ((SV.v (.string n)).den ℓ) (y.den ℓ)).run P w = .ok () (w.putObj b.block (mapS (putS n v l))) := by
    simp only [Instr.mapUpdate, SV.den, hy, Sem.run_bind, run_underlying' hu, Result.andThen_ok, hbl]
    have hg := run_getMap (P := P) hh
    simp only [hg, Result.andThen_ok, run_checkKey_str hk, Instr.findKey, Sem.run_bind, run_underlying hk, findNow_S]
    cases hf : l.findIdx? (fun p => n = p.1) with
    | none =>
      simp only [Sem.run_pure, Result.andThen_ok]
      rw [run_setMap _ hh, putS_none n v l hf]
      simp [mapS, entriesS_append, entriesS]
    | some m =>
      obtain ⟨hlt, hpm, _⟩ := List.findIdx?_eq_some_iff_getElem.1 hf
      simp only [decide_eq_true_eq] at hpm
      simp only [List.getElem?_eq_getElem hlt, Option.map_some, Sem.run_pure, Result.andThen_ok, Nat.zero_add]
      have hkey : (((entriesS l 0).toArray[m]?).map (·.key)).getD (.string n) = .string n := by
        have := entriesS_key l 0 m
        simp only [List.getElem?_toArray]
        rw [this, List.getElem?_eq_getElem hlt]
        simp [← hpm]
      rw [hkey]
      have hst : (Instr.keyThatStays (.string n) (.string n)).run P w = .ok (.string n) w := by simp [Instr.keyThatStays, Instr.sameBits, strBeq]
      simp only [Sem.run_bind, hst, Result.andThen_ok]
      rw [run_setMap _ hh]
      obtain ⟨h1, h2⟩ := putS_some n v l m 0 hf
      simp only [mapS, h2]
      rw [← h1]
      simp
  obtain ⟨g1, g2, g3⟩ := hG.putObj (k' := .obj (mapS (putS n v l))) hk' hb rfl rfl rfl (mapS (putS n v l)) ⟨hoff, World.putObj_heap_same (lt_of_get hh)⟩
  refine ⟨undefS, ℓ, _, w.putObj b.block (mapS (putS n v l)), ?_, rfl, List.prefix_refl _, g1, g2, g3, h⟩
  simp only [Sem.run_bind, hrun, Result.andThen_ok, Sem.run_pure]
  rfl
end Go.Tr
end

/-! Gx -/
section
namespace Go.Tr
open Go
set_option linter.unusedSimpArgs false

theorem bind_some {α β : Type} {x : Option α} {f : α → Option β} {r : β} (h : x.bind f = some r) : ∃ y, x = some y ∧ f y = some r := by
  cases x with
  | none => cases h
  | some y => exact ⟨y, rfl, h⟩
theorem cond_t {α : Type} {b : Bool} {A B : Option α} {r : α} (hb : b = true) (h : cond b A B = some r) : A = some r := by subst hb; exact h
theorem cond_f {α : Type} {b : Bool} {A B : Option α} {r : α} (hb : b = false) (h : cond b A B = some r) : B = some r := by subst hb; exact h
theorem cond_need {α : Type} {b : Bool} {A : Option α} {r : α} (h : cond b A none = some r) : b = true ∧ A = some r := by
  cases b with
  | true => exact ⟨rfl, h⟩
  | false => cases h
theorem ff {A : Prop} (h : false = true) : A := by cases h
theorem tf {A : Prop} (h : true = false) : A := by cases h

/-- l[i], if there is one. -/
def idx {α : Type} (l : List α) (i : Int) : Option α := cond (decide (0 ≤ i)) l[i.toNat]? none
theorem idx_some {α : Type} {l : List α} {i : Int} {x : α} (h : idx l i = some x) : 0 ≤ i ∧ l[i.toNat]? = some x := by
  obtain ⟨h1, h2⟩ := cond_need h
  exact ⟨of_decide_eq_true h1, h2⟩
theorem idx_nat {α : Type} (l : List α) (i : Nat) : idx l (i : Int) = l[i]? := by simp [idx]

def pickR {α : Type} (l : List α) : List Nat → Option (List α)
  | [] => some []
  | j :: js => match nth l j, pickR l js with
    | some x, some r => some (x :: r)
    | _, _ => none

theorem pickR_mem {α : Type} {l : List α} : ∀ {js : List Nat} {r : List α}, pickR l js = some r → ∀ p ∈ r, p ∈ l
  | [], r, h, p, hp => by cases h; cases hp
  | j :: js, r, h, p, hp => by
    simp only [pickR] at h
    split at h
    · rename_i x r' h1 h2
      cases h
      rcases List.mem_cons.1 hp with e | e
      · subst e; exact List.mem_of_getElem? (by rw [← nth_eq]; exact h1)
      · exact pickR_mem h2 p e
    · cases h

theorem pickR_get {α : Type} {l : List α} : ∀ {js : List Nat} {r : List α}, pickR l js = some r → js.length = r.length ∧ ∀ (p : Nat) (x : α), r[p]? = some x → ∃ i, js[p]? = some i ∧ l[i]? = some x
  | [], r, h => by cases h; exact ⟨rfl, fun p x hp => by simp at hp⟩
  | j :: js, r, h => by
    simp only [pickR] at h
    split at h
    · rename_i x r' h1 h2
      cases h
      obtain ⟨h3, h4⟩ := pickR_get h2
      refine ⟨by simp [h3], fun p y hp => ?_⟩
      cases p with
      | zero => simp at hp; subst hp; exact ⟨j, rfl, by rw [← nth_eq]; exact h1⟩
      | succ p => exact h4 p y (by simpa using hp)
    · cases h

theorem Pure.atR {P : Program} {cl : Cal} {args : List SV} {rs : List (Value × D)} {R : SV → List (Value × D) → Prop} {S : St} {K : Out → St → Prop} (h : Pure P cl args rs R) (js : List Nat) (hrs : pickR S.reps js = some rs) (hargs : SV.wfL 0 args = true) (hcl : cl.wf 0 = true)
    (k : ∀ r out, R r out → addReps S out (fun S' => K (.ret r) S')) : Meets P cl args S K := h.at (pickR_mem hrs) hargs hcl k

def noDup : List Nat → Bool
  | [] => true
  | j :: js => !js.contains j && noDup js
theorem noDup_spec : ∀ {l : List Nat}, noDup l = true → l.Nodup
  | [], _ => .nil
  | j :: js, h => by
    simp only [noDup, Bool.and_eq_true, Bool.not_eq_true', List.contains_eq_mem, decide_eq_false_iff_not] at h
    exact List.nodup_cons.2 ⟨h.1, noDup_spec h.2⟩

/-- At a call that is handed own blocks, by their numbers, and hands them back, and data. -/
theorem Meets.frameR {P : Program} {cl : Cal} {args : List SV} {own : List Blk} {rs : List (Value × D)} {R : Out → St → Prop} {S : St} {K : Out → St → Prop} {cl' : Cal} {args' : List SV} (h : Meets P cl args ⟨own, [], rs⟩ R) (ix js : List Nat)
    (hcl' : cl' = cl.ren (rix ix)) (hargs' : args' = SV.renL (rix ix) args)
    (hn : noDup ix = true) (hown : pickR S.own ix = some (own.map (Blk.ren (rix ix)))) (hw : wfB ix.length own = true)
    (hrs : pickR S.reps js = some rs) (hargs : SV.wfL ix.length args = true) (hcl : cl.wf ix.length = true)
    (k : ∀ o s', R o s' → s'.accs = [] ∧ s'.own.map Blk.mut = own.map Blk.mut ∧ ∃ ks, s'.own.map (Blk.ren (rix ix)) = ks ∧ forceL (setAll S.own ix ks) (fun own => putOwn S own (fun S1 => addReps S1 s'.reps (fun S' => K (o.ren (rix ix)) S')))) : Meets P cl' args' S K := by
  obtain ⟨h1, h2⟩ := pickR_get hown
  refine Meets.frame h ix hcl' hargs' (noDup_spec hn) (by simpa using h1.symm) ?_ (pickR_mem hrs) hargs hcl k
  intro p q hp
  obtain ⟨i, h3, h4⟩ := h2 p (q.ren (rix ix)) (by rw [List.getElem?_map, hp]; rfl)
  exact ⟨i, h3, h4, wfB_spec hw q (List.mem_of_getElem? hp)⟩

/-- Which slices may grow from here on: old ones, or nil ones. -/
inductive ASel where
  | old (j : Nat)
  | nil (k : Nat) (T : TypeId)

/-- Which data are known from here on: old ones; slices that grew; nil slices. -/
inductive RSel where
  | old (j : Nat)
  | froz (j : Nat)
  | nil (k : Nat)

def selAccs (S : St) : List ASel → Option (List Acc)
  | [] => some []
  | .old j :: r => match nth S.accs j, selAccs S r with
    | some a, some l => some (a :: l)
    | _, _ => none
  | .nil k T :: r => match selAccs S r with
    | some l => some (⟨.slice none 0 0, k, T, []⟩ :: l)
    | none => none

def selReps (S : St) : List RSel → Option (List (Value × D))
  | [] => some []
  | .old j :: r => match nth S.reps j, selReps S r with
    | some a, some l => some (a :: l)
    | _, _ => none
  | .froz j :: r => match nth S.accs j, selReps S r with
    | some a, some l => some ((a.v, .sl a.k a.ds) :: l)
    | _, _ => none
  | .nil k :: r => match selReps S r with
    | some l => some ((.slice none 0 0, .sl k []) :: l)
    | none => none

def oldsA : List ASel → List Nat
  | [] => []
  | .old j :: r => j :: oldsA r
  | .nil _ _ :: r => oldsA r
def frozR : List RSel → List Nat
  | [] => []
  | .froz j :: r => j :: frozR r
  | _ :: r => frozR r
def ascend : Nat → List Nat → Bool
  | _, [] => true
  | n, j :: r => Nat.ble n j && ascend (j + 1) r
def apartN (l : List Nat) : List Nat → Bool
  | [] => true
  | j :: r => !l.contains j && apartN l r

theorem selAccs_mem {S : St} : ∀ {ag : List ASel} {l : List Acc}, selAccs S ag = some l → ∀ a ∈ l, (∃ j ∈ oldsA ag, S.accs[j]? = some a) ∨ (∃ k T, a = ⟨.slice none 0 0, k, T, []⟩)
  | [], l, h, a, ha => by cases h; cases ha
  | .old j :: r, l, h, a, ha => by
    simp only [selAccs] at h
    split at h
    · rename_i x l' h1 h2
      cases h
      rcases List.mem_cons.1 ha with e | e
      · subst e; exact .inl ⟨j, by simp [oldsA], by rw [← nth_eq]; exact h1⟩
      · rcases selAccs_mem h2 a e with ⟨i, hi, hi'⟩ | h3
        · exact .inl ⟨i, by simp [oldsA, hi], hi'⟩
        · exact .inr h3
    · cases h
  | .nil k T :: r, l, h, a, ha => by
    simp only [selAccs] at h
    split at h
    · rename_i l' h2
      cases h
      rcases List.mem_cons.1 ha with e | e
      · exact .inr ⟨k, T, e⟩
      · rcases selAccs_mem h2 a e with ⟨i, hi, hi'⟩ | h3
        · exact .inl ⟨i, by simpa [oldsA] using hi, hi'⟩
        · exact .inr h3
    · cases h

theorem drop_sub {α β : Type} (f : α → List β) (l : List α) {n j : Nat} {a : α} (hn : n ≤ j) (h : l[j]? = some a) : (f a ++ (l.drop (j + 1)).flatMap f).Sublist ((l.drop n).flatMap f) := by
  have h1 : l.drop j = a :: l.drop (j + 1) := by
    have hlt : j < l.length := (List.getElem?_eq_some_iff.1 h).1
    rw [List.drop_eq_getElem_cons hlt]
    congr 1
    exact (List.getElem?_eq_some_iff.1 h).2
  have h2 : (l.drop j).Sublist (l.drop n) := by
    have : l.drop j = (l.drop n).drop (j - n) := by rw [List.drop_drop]; congr 1; omega
    rw [this]; exact List.drop_sublist _ _
  have := sublist_flatMap f h2
  rw [h1, List.flatMap_cons] at this
  exact this

theorem selAccs_sub {S : St} (f : Acc → List Nat) (hf : ∀ k T, f ⟨.slice none 0 0, k, T, []⟩ = []) : ∀ {ag : List ASel} {l : List Acc} {n : Nat}, selAccs S ag = some l → ascend n (oldsA ag) = true → (l.flatMap f).Sublist ((S.accs.drop n).flatMap f)
  | [], l, n, h, _ => by cases h; simp
  | .old j :: r, l, n, h, hh => by
    simp only [selAccs] at h
    split at h
    · rename_i x l' h1 h2
      cases h
      simp only [oldsA, ascend, Bool.and_eq_true] at hh
      rw [List.flatMap_cons]
      exact ((List.Sublist.refl _).append (selAccs_sub f hf h2 hh.2)).trans (drop_sub f S.accs (Nat.le_of_ble_eq_true hh.1) (by rw [← nth_eq]; exact h1))
    · cases h
  | .nil k T :: r, l, n, h, hh => by
    simp only [selAccs] at h
    split at h
    · rename_i l' h2
      cases h
      rw [List.flatMap_cons, hf, List.nil_append]
      exact selAccs_sub f hf h2 hh
    · cases h

theorem selReps_mem {S : St} : ∀ {rs : List RSel} {l : List (Value × D)}, selReps S rs = some l → ∀ p ∈ l, p ∈ S.reps ∨ (∃ j a, j ∈ frozR rs ∧ S.accs[j]? = some a ∧ p = (a.v, .sl a.k a.ds)) ∨ (∃ k, p = (.slice none 0 0, .sl k []))
  | [], l, h, a, ha => by cases h; cases ha
  | .old j :: r, l, h, a, ha => by
    simp only [selReps] at h
    split at h
    · rename_i x l' h1 h2
      cases h
      rcases List.mem_cons.1 ha with e | e
      · subst e; exact .inl (List.mem_of_getElem? (by rw [← nth_eq]; exact h1))
      · exact selReps_mem h2 a e
    · cases h
  | .froz j :: r, l, h, a, ha => by
    simp only [selReps] at h
    split at h
    · rename_i x l' h1 h2
      cases h
      rcases List.mem_cons.1 ha with e | e
      · exact .inr (.inl ⟨j, x, by simp [frozR], by rw [← nth_eq]; exact h1, e⟩)
      · rcases selReps_mem h2 a e with h3 | ⟨i, y, h4, h5⟩ | h3
        · exact .inl h3
        · exact .inr (.inl ⟨i, y, by simp [frozR, h4], h5⟩)
        · exact .inr (.inr h3)
    · cases h
  | .nil k :: r, l, h, a, ha => by
    simp only [selReps] at h
    split at h
    · rename_i l' h2
      cases h
      rcases List.mem_cons.1 ha with e | e
      · exact .inr (.inr ⟨k, e⟩)
      · exact selReps_mem h2 a e
    · cases h

theorem flatMap_apart {α : Type} {f : α → List Nat} : ∀ {l : List α}, (l.flatMap f).Nodup → ∀ {i j : Nat} {x y : α} {b : Nat}, l[i]? = some x → l[j]? = some y → i ≠ j → b ∈ f x → b ∈ f y → False
  | [], _, i, j, x, y, b, h, _, _, _, _ => by simp at h
  | a :: l, hn, i, j, x, y, b, hi, hj, hij, hx, hy => by
    rw [List.flatMap_cons, List.nodup_append] at hn
    cases i with
    | zero =>
      simp at hi; subst hi
      cases j with
      | zero => exact hij rfl
      | succ j => exact hn.2.2 b hx b (List.mem_flatMap.2 ⟨y, List.mem_of_getElem? (by simpa using hj), hy⟩) rfl
    | succ i =>
      cases j with
      | zero =>
        simp at hj; subst hj
        exact hn.2.2 b hy b (List.mem_flatMap.2 ⟨x, List.mem_of_getElem? (by simpa using hi), hx⟩) rfl
      | succ j => exact flatMap_apart hn.2.1 (by simpa using hi) (by simpa using hj) (by omega) hx hy

theorem selAccs_mem2 {S : St} (f : Acc → List Nat) (hf : ∀ k T, f ⟨.slice none 0 0, k, T, []⟩ = []) {ag : List ASel} {l : List Acc} (h : selAccs S ag = some l) : ∀ b, b ∈ l.flatMap f → b ∈ S.accs.flatMap f := by
  intro b hb
  obtain ⟨a, ha, hba⟩ := List.mem_flatMap.1 hb
  rcases selAccs_mem h a ha with ⟨j, _, hj⟩ | ⟨k, T, rfl⟩
  · exact List.mem_flatMap.2 ⟨a, List.mem_of_getElem? hj, hba⟩
  · rw [hf] at hba; cases hba

theorem selAccs_nodup {S : St} (f : Acc → List Nat) (hf : ∀ k T, f ⟨.slice none 0 0, k, T, []⟩ = []) (hn : (S.accs.flatMap f).Nodup) : ∀ {ag : List ASel} {l : List Acc}, selAccs S ag = some l → (oldsA ag).Nodup → (l.flatMap f).Nodup
  | [], l, h, _ => by cases h; simp
  | .old j :: r, l, h, hh => by
    simp only [selAccs] at h
    split at h
    · rename_i x l' h1 h2
      cases h
      simp only [oldsA] at hh
      obtain ⟨hj, hr⟩ := List.nodup_cons.1 hh
      have hx : S.accs[j]? = some x := by rw [← nth_eq]; exact h1
      rw [List.flatMap_cons, List.nodup_append]
      refine ⟨?_, selAccs_nodup f hf hn h2 hr, fun b hb b' hb' e => ?_⟩
      · have hm := List.mem_of_getElem? hx
        obtain ⟨s, t, hst⟩ := List.append_of_mem hm
        rw [hst, List.flatMap_append, List.flatMap_cons, List.nodup_append, List.nodup_append] at hn
        exact hn.2.1.1
      · subst e
        obtain ⟨a, ha, hba⟩ := List.mem_flatMap.1 hb'
        rcases selAccs_mem h2 a ha with ⟨i, hi, hia⟩ | ⟨k, T, rfl⟩
        · refine flatMap_apart hn hx hia ?_ hb hba
          rintro rfl
          exact hj hi
        · rw [hf] at hba; cases hba
    · cases h
  | .nil k T :: r, l, h, hh => by
    simp only [selAccs] at h
    split at h
    · rename_i l' h2
      cases h
      rw [List.flatMap_cons, hf, List.nil_append]
      exact selAccs_nodup f hf hn h2 hh
    · cases h

theorem apartN_spec {l : List Nat} : ∀ {r : List Nat}, apartN l r = true → ∀ j ∈ r, j ∉ l
  | [], _, j, hj => by cases hj
  | i :: r, h, j, hj => by
    simp only [apartN, Bool.and_eq_true, Bool.not_eq_true', List.contains_eq_mem, decide_eq_false_iff_not] at h
    rcases List.mem_cons.1 hj with e | e
    · subst e; exact h.1
    · exact apartN_spec h.2 j e

/-- A part of the state, by numbers; slices that grew may be data from here on; nil slices may grow, or are data. -/
theorem StLe.gen {S : St} (n : Nat) (ag : List ASel) (rs : List RSel) {own : List Blk} {accs : List Acc} {reps : List (Value × D)} (ho : S.own.take n = own) (ha : selAccs S ag = some accs) (hr : selReps S rs = some reps)
    (hn : Nat.ble n S.own.length = true) (hw : wfB n own = true) (hd : noDup (oldsA ag) = true) (hf : apartN (oldsA ag) (frozR rs) = true) : StLe S ⟨own, accs, reps⟩ := by
  subst ho
  have hn := Nat.le_of_ble_eq_true hn
  have hlen : (S.own.take n).length = n := by rw [List.length_take]; omega
  have hmemA : ∀ b, b ∈ accs.flatMap (fun a => accBlk a.v) → b ∈ S.accs.flatMap (fun a => accBlk a.v) := fun b hb => selAccs_mem2 (fun a => accBlk a.v) (fun _ _ => rfl) ha b hb
  refine ⟨by simp only [hlen]; exact hn, fun J ℓ w h => ?_⟩
  simp only [hlen]
  have hmem : ∀ b ∈ mutS (ℓ.take n) ⟨S.own.take n, accs, reps⟩, b ∈ mutS ℓ S := fun b hb => by
    simp only [mutS] at hb ⊢
    rcases List.mem_append.1 hb with h1 | h1
    · exact List.mem_append.2 (.inl ((mutL_take n).subset h1))
    · exact List.mem_append.2 (.inr (hmemA b h1))
  have hx : ∀ x, x < w.heap.size → Jx J (mutS ℓ S) x → Jx J (mutS (ℓ.take n) ⟨S.own.take n, accs, reps⟩) x ∧ w.heap[x]? = w.heap[x]? := fun x _ hj => ⟨⟨hj.1, fun hx => hj.2 (hmem x hx)⟩, rfl⟩
  obtain ⟨_, h2⟩ := StLe.part S n hn (wfB_spec hw) [] (List.nil_sublist _) [] (by simp)
  obtain ⟨hg, _⟩ := h2 J ℓ w h
  simp only [hlen] at hg
  have hnd := h.nodup
  simp only [mutS] at hnd
  rw [List.nodup_append] at hnd
  have hnodup : (mutS (ℓ.take n) ⟨S.own.take n, accs, reps⟩).Nodup := by
    simp only [mutS]
    rw [List.nodup_append]
    exact ⟨(mutL_take n).nodup hnd.1, selAccs_nodup (fun a => accBlk a.v) (fun _ _ => rfl) hnd.2.1 ha (noDup_spec hd), fun x hx y hy => hnd.2.2 x ((mutL_take n).subset hx) y (hmemA y hy)⟩
  refine ⟨⟨hg.len, hnodup, fun b hb => h.lt b (hmem b hb), fun b hb => h.memJ b (hmem b hb), hg.wf, ?_, ?_, ?_⟩, hmem⟩
  · intro i b k hi hk
    simp only at hk
    have hin : i < n := by
      rcases Nat.lt_or_ge i n with h1 | h1
      · exact h1
      · rw [List.getElem?_eq_none (by rw [hlen]; exact h1)] at hk; cases hk
    rw [List.getElem?_take, if_pos hin] at hi hk
    refine (h.own i b k hi hk).keep (wfB_spec hw k (List.mem_of_getElem? (by rw [List.getElem?_take, if_pos hin]; exact hk))) (fun j hj => ?_) (fun x hx' hj => (hx x hx' hj).1) (fun _ => rfl)
    simp [List.getD, hj]
  · intro a haa
    rcases selAccs_mem ha a haa with ⟨j, _, hj⟩ | ⟨k, T, rfl⟩
    · exact (h.accs a (List.mem_of_getElem? hj)).keep hx (fun _ _ _ => rfl)
    · exact .inl ⟨rfl, rfl⟩
  · intro p hp
    rcases selReps_mem hr p hp with h1 | ⟨j, a, hj, haj, rfl⟩ | ⟨k, rfl⟩
    · exact (h.reps p h1).map hx
    · have hok := h.accs a (List.mem_of_getElem? haj)
      simp only [Rep, RepC]
      rcases hok with ⟨hv, hd⟩ | ⟨b, cp, cc, hv, hgb, hcs, hl, hre⟩
      · rw [hv, hd]
        exact ⟨none, 0, rfl, ⟨Nat.le_refl _, Nat.zero_le _⟩, .inl rfl⟩
      · rw [hv]
        have hba : b ∈ accBlk a.v := by simp [hv, accBlk]
        have hbm : b ∈ S.accs.flatMap (fun a => accBlk a.v) := List.mem_flatMap.2 ⟨a, List.mem_of_getElem? haj, hba⟩
        refine ⟨_, cp, rfl, hl, .inr ⟨b, 0, cc, a.T, (0, 0), rfl, ⟨h.memJ b (by simp only [mutS]; exact List.mem_append.2 (.inr hbm)), fun hmm => ?_⟩, hgb, ?_⟩⟩
        · simp only [mutS] at hmm
          rcases List.mem_append.1 hmm with hm1 | hm1
          · exact hnd.2.2 b ((mutL_take n).subset hm1) b hbm rfl
          · obtain ⟨a', ha', hb'⟩ := List.mem_flatMap.1 hm1
            rcases selAccs_mem ha a' ha' with ⟨i, hi, hia⟩ | ⟨k, T, rfl⟩
            · refine flatMap_apart (f := fun (x : Acc) => accBlk x.v) hnd.2.1 hia haj ?_ hb' hba
              rintro rfl
              exact apartN_spec hf i hj hi
            · simp [accBlk] at hb'
        · simpa using RepE.map hx a.k _ _ hre
    · exact ⟨none, 0, rfl, ⟨Nat.zero_le _, Nat.zero_le _⟩, .inl rfl⟩

theorem AtRet.gen {m : Nat} {o : Out} {S : St} {R : Out → St → Prop} (S' : St) (h : StLe S S') (hm : Nat.ble m S'.own.length = true) (ho : o.wf S'.own.length = true) (hR : R o S') : AtRet m o S R :=
  ⟨⟨S', h, Nat.le_of_ble_eq_true hm, ho, hR⟩⟩

/-- The end of a pure function. -/
theorem AtRet.pureG {r : SV} {S : St} {R : SV → List (Value × D) → Prop} (rs : List RSel) (out : List (Value × D)) (hout : selReps S rs = some out) (hr : r.wf 0 = true) (h : R r out) : AtRet 0 (.ret r) S (fun o S' => ∃ r out, o = .ret r ∧ S' = ⟨[], [], out⟩ ∧ r.wf 0 = true ∧ R r out) :=
  ⟨⟨[], [], out⟩, StLe.gen 0 [] rs rfl rfl hout (by simp) rfl rfl (by simp only [oldsA]; induction (frozR rs) with | nil => rfl | cons a l ih => simpa [apartN] using ih), Nat.zero_le _, hr, r, out, rfl, rfl, hr, h⟩

/-- Less may be known ahead of a call. -/
theorem Meets.le {P : Program} {cl : Cal} {args : List SV} {S S' : St} {R : Out → St → Prop} (h : StLe S S') (hl : Nat.beq S'.own.length S.own.length = true) (k : Meets P cl args S' R) : Meets P cl args S R := by
  intro J ℓ w hG hJ
  have hl := Nat.eq_of_beq_eq_true hl
  obtain ⟨h1, h2⟩ := h.2 J ℓ w hG
  rw [hl, ← hG.len, List.take_length] at h1 h2
  obtain ⟨nx, e1, e2⟩ := k J ℓ w h1 hJ
  refine ⟨nx, e1, e2.mono ?_⟩
  rintro e w' ⟨ℓ', o, S'', a1, a2, a3, a4, a5, a6, a7⟩
  exact ⟨ℓ', o, S'', a1, a2, a3, a4.mono (fun x hx _ => h2 x hx), a5, fun b hb => (a6 b hb).imp (h2 b) id, a7⟩

theorem AtSem.le {P : Program} {m : List Base → Sem Value} {S S' : St} {K : SV → St → Prop} (h : StLe S S') (hl : Nat.beq S'.own.length S.own.length = true) (k : AtSem P m S' K) : AtSem P m S K := by
  constructor
  intro J ℓ w hG hJ
  have hl := Nat.eq_of_beq_eq_true hl
  obtain ⟨h1, h2⟩ := h.2 J ℓ w hG
  rw [hl, ← hG.len, List.take_length] at h1 h2
  obtain ⟨r, ℓ', S'', w', a1, a2, a3, a4, a5, a6, a7⟩ := k.sem J ℓ w h1 hJ
  exact ⟨r, ℓ', S'', w', a1, a2, a3, a4.mono (fun x hx _ => h2 x hx), a5, fun b hb => (a6 b hb).imp (h2 b) id, a7⟩

/-- append(s, x...) of a slice that may grow; what it reads as then. -/
theorem at_appendG {P : Program} {tt : Tab} (hT : TTOK P tt) {t e ty : TypeId} {k : Nat} {x y : SV} {S : St} {K : SV → St → Prop} {v : Value} {a : Option Addr} {m c : Nat} {ds es ds' : List D} (bytes j i : Nat) (ht : tt t = some (.slice e k)) (hel : elemB P e k bytes = true)
    (hx : x = .v v) (hacc : nth S.accs j = some ⟨v, k, e, ds⟩) (hy : y = .v (.slice a m c)) (hr : nth S.reps i = some (.slice a m c, .sl k es)) (hds : ds' = ds ++ es) (hc : decide (ds'.length ≤ 1000000) = true) (hb : Nat.ble bytes 100000 = true)
    (h : ∀ a' c', forceL (setNth S.accs j ⟨.slice a' ds'.length c', k, e, ds'⟩) (fun accs => K (.v (.slice a' ds'.length c')) ⟨S.own, accs, S.reps⟩)) : AtSem P (fun ℓ => Builtin.append_ #[t, t] ty (SV.denL ℓ [x, y]).toArray) S K := by
  subst hds
  have hc := of_decide_eq_true hc
  have hb := Nat.le_of_ble_eq_true hb
  simp only [List.length_append] at h hc
  have : (ds.length + es.length) * bytes ≤ 1000000 * 100000 := Nat.mul_le_mul hc hb
  exact at_append hT bytes j i ht hel hx hacc hy hr (by omega) (by omega) h

theorem map_snoc {α : Type} (f : α → D) (l : List α) (x : α) : (l ++ [x]).map f = l.map f ++ [f x] := by simp
theorem map_get {α : Type} (f : α → D) {l : List α} {i : Nat} {x : α} (h : l[i]? = some x) : (l.map f)[i]? = some (f x) := by simp [h]

/-- f yields r, given fuel enough. -/
def Ev {α : Type} (f : Nat → Option α) (r : α) : Prop := ∃ N, ∀ n, N ≤ n → f n = some r

theorem Ev.pure {α : Type} (r : α) : Ev (fun _ => some r) r := ⟨0, fun _ _ => rfl⟩
theorem Ev.const {α : Type} {f : Nat → Option α} {r : α} (h : ∀ n, f n = some r) : Ev f r := ⟨0, fun n _ => h n⟩
theorem Ev.succ {α : Type} {f g : Nat → Option α} {r : α} (hf : ∀ n, f (n + 1) = g n) (h : Ev g r) : Ev f r := by
  obtain ⟨N, h⟩ := h
  refine ⟨N + 1, fun n hn => ?_⟩
  obtain ⟨m, rfl⟩ : ∃ m, n = m + 1 := ⟨n - 1, by omega⟩
  rw [hf]; exact h m (by omega)
theorem Ev.bind {α β : Type} {f : Nat → Option α} {g : Nat → α → Option β} {x : α} {r : β} (h : Ev f x) (k : Ev (fun n => g n x) r) : Ev (fun n => (f n).bind (g n)) r := by
  obtain ⟨N, h⟩ := h
  obtain ⟨M, k⟩ := k
  refine ⟨max N M, fun n hn => ?_⟩
  show (f n).bind (g n) = some r
  rw [h n (by omega)]
  exact k n (by omega)
theorem Ev.t {α : Type} {b : Bool} {f g : Nat → Option α} {r : α} (hb : b = true) (h : Ev f r) : Ev (fun n => cond b (f n) (g n)) r := by subst hb; exact h
theorem Ev.f {α : Type} {b : Bool} {f g : Nat → Option α} {r : α} (hb : b = false) (h : Ev g r) : Ev (fun n => cond b (f n) (g n)) r := by subst hb; exact h
theorem Ev.eq {α : Type} {f : Nat → Option α} {r r' : α} (h : Ev f r) (e : r = r') : Ev f r' := e ▸ h
theorem Ev.ite {α : Type} {b : Bool} {f g : Nat → Option α} {r : α} (h : b = true → Ev f r) (k : b = false → Ev g r) : Ev (fun n => cond b (f n) (g n)) r := by
  cases b with
  | true => exact h rfl
  | false => exact k rfl

theorem no_some {α : Type} {r : α} {A : Prop} (h : (none : Option α) = some r) : A := by cases h
theorem nth_mem {α : Type} {l : List α} {j : Nat} {x : α} (h : nth l j = some x) : x ∈ l := List.mem_of_getElem? (by rw [← nth_eq]; exact h)
theorem OwnKeptBut.append {W : List Nat} {S : St} {l : List Blk} {accs : List Acc} {reps : List (Value × D)} : OwnKeptBut W S ⟨S.own ++ l, accs, reps⟩ := (OwnKept.append S l accs reps).but W

/-- A slice literal; what it reads as. -/
theorem at_buildG {P : Program} {tt : Tab} (hT : TTOK P tt) {t e : TypeId} {k n : Nat} {l : List (Nat × SV)} {S : St} {K : SV → St → Prop} (bytes : Nat) (ds : List D) {ds' : List D} (ht : tt t = some (.slice e k)) (hel : elemB P e k bytes = true) (hl : partsOK S.reps k 0 l ds) (hn : ds'.length = n) (hds : ds' = ds) (hlim : n * k ≤ 16777216) (hpos : n ≤ 16777216)
    (h : ∀ a, addReps S [(.slice a ds'.length n, .sl k ds')] (fun S' => K (.v (.slice a ds'.length n)) S')) : AtSem P (fun ℓ => Instr.buildSlice t n (denParts ℓ l).toArray) S K := by
  subst hds
  rw [hn] at h
  exact at_build hT bytes _ ht hel hl hn hlim hpos h

/-- x[lo:hi]; what it reads as. -/
theorem at_sliceG {P : Program} {tt : Tab} (hT : TTOK P tt) {t e : TypeId} {k : Nat} {x : SV} {sl sh : Option SV} {S : St} {K : SV → St → Prop} {a : Option Addr} {n c : Nat} {ds ds' : List D} (j : Nat) (lo hi : Int) (hx : x = .v (.slice a n c)) (ht : tt t = some (.slice e k))
    (hr : nth S.reps j = some (.slice a n c, .sl k ds)) (hlo : (∃ q, sl = some (.v (.int q lo))) ∨ (sl = none ∧ lo = 0)) (hhi : (∃ q, sh = some (.v (.int q hi))) ∨ (sh = none ∧ hi = n)) (h0 : decide (0 ≤ lo ∧ lo ≤ hi ∧ hi ≤ n) = true) (hds : ds' = (ds.take hi.toNat).drop lo.toNat)
    (h : ∀ a' c', addReps S [(.slice a' ds'.length c', .sl k ds')] (fun S' => K (.v (.slice a' ds'.length c')) S')) : AtPure P (fun ℓ => Instr.sliceAt t (x.den ℓ) (denO ℓ sl) (denO ℓ sh) (denO ℓ none)) S K := by
  obtain ⟨h1, h2, h3⟩ := of_decide_eq_true h0
  have hb1 : bnd 0 lo.toNat sl := by
    rcases hlo with ⟨q, rfl⟩ | ⟨rfl, rfl⟩
    · simp only [bnd]; omega
    · rfl
  have hb2 : bnd n hi.toNat sh := by
    rcases hhi with ⟨q, rfl⟩ | ⟨rfl, rfl⟩
    · simp only [bnd]; omega
    · simp only [bnd]; omega
  constructor
  intro J ℓ w hG hJ
  have hrep := hG.reps _ (List.mem_of_getElem? (by rw [← nth_eq]; exact hr))
  simp only [Rep, RepC] at hrep
  obtain ⟨a', cap, heq, hle, _⟩ := hrep
  simp only [List.cons.injEq, Value.slice.injEq, and_true] at heq
  obtain ⟨_, hn, _⟩ := heq
  have hl : ds'.length = hi.toNat - lo.toNat := by subst hds; simp; omega
  refine (at_slice hT j lo.toNat hi.toNat hx ht hr hb1 hb2 (by omega) (by omega) ?_).sem J ℓ w hG hJ
  intro a' c' _
  have := h a' c'
  rw [hl, hds] at this
  exact this

theorem sl_lh {α : Type} (f : α → D) (l : List α) (lo hi : Int) : ((l.take hi.toNat).drop lo.toNat).map f = ((l.map f).take hi.toNat).drop lo.toNat := by simp [List.map_take, List.map_drop]
theorem sl_l {α : Type} (f : α → D) (l : List α) (lo : Int) : (l.drop lo.toNat).map f = ((l.map f).take (((l.map f).length : Nat) : Int).toNat).drop lo.toNat := by
  rw [Int.toNat_natCast, List.take_length, List.map_drop]
theorem sl_h {α : Type} (f : α → D) (l : List α) (hi : Int) : (l.take hi.toNat).map f = ((l.map f).take hi.toNat).drop (0 : Int).toNat := by simp [List.map_take]
theorem sl_0 {α : Type} (f : α → D) (l : List α) : l.map f = ((l.map f).take (((l.map f).length : Nat) : Int).toNat).drop (0 : Int).toNat := by
  rw [Int.toNat_natCast, List.take_length]; rfl

/-- A slice literal that may grow. -/
theorem at_buildAcc {P : Program} {tt : Tab} (hT : TTOK P tt) {t e : TypeId} {k n : Nat} {l : List (Nat × SV)} {S : St} {K : SV → St → Prop} (bytes : Nat) (ds : List D) {ds' : List D} (ht : tt t = some (.slice e k)) (hel : elemB P e k bytes = true) (hl : partsOK S.reps k 0 l ds) (hn : ds'.length = n) (hds : ds' = ds) (hlim : n * k ≤ 16777216) (hpos : n ≤ 16777216)
    (h : ∀ a, forceL (⟨.slice a ds'.length n, k, e, ds'⟩ :: S.accs) (fun accs => K (.v (.slice a ds'.length n)) ⟨S.own, accs, S.reps⟩)) : AtSem P (fun ℓ => Instr.buildSlice t n (denParts ℓ l).toArray) S K := by
  subst hds
  simp only [forceL_eq] at h
  rw [hn] at h
  constructor
  intro J ℓ w hG hJ
  obtain ⟨flat, hfl, hrun, hrep⟩ := run_build hT ht hel (ℓ := ℓ) hl hn hlim w
  have hold : ∀ x, x < w.heap.size → (w.alloc (.cells flat.toArray e (0, 0))).heap[x]? = w.heap[x]? := fun x hx => by
    show (w.heap.push _)[x]? = _
    rw [Array.getElem?_push, if_neg (by omega)]
  have hG1 : Good J ℓ ⟨S.own, ⟨.slice none 0 0, k, e, []⟩ :: S.accs, S.reps⟩ w := Good.nilAcc k e hG
  have hm1 : mutS ℓ ⟨S.own, ⟨.slice none 0 0, k, e, []⟩ :: S.accs, S.reps⟩ = mutS ℓ S := by simp [mutS, accBlk]
  have hsz : w.heap.size ≤ (w.alloc (.cells flat.toArray e (0, 0))).heap.size := by simp
  obtain ⟨hG2, hf⟩ := hG1.regrow hJ (j := 0) (a := ⟨.slice none 0 0, k, e, []⟩) (a' := ⟨.slice (some ⟨w.heap.size, 0, none⟩) n n, k, e, ds'⟩) rfl hsz (fun b hb _ => hold b hb) (by simp [accBlk]) (by
    intro b hb
    simp only [accBlk, List.mem_singleton] at hb
    subst hb
    exact ⟨.inr (Nat.le_refl _), by simp⟩) (fun J' hj => by
    refine .inr ⟨w.heap.size, n, flat.toArray, ?_, World.alloc_heap_new w _, ?_, ?_, ?_⟩
    · simp only; rw [hn]
    · simpa using hfl
    · simp only; rw [hn]; exact ⟨Nat.le_refl _, by omega⟩
    · simp only
      refine hrep (J := J') fun p hp => ?_
      have := hG1.reps p hp
      exact this.map hj)
  refine ⟨.v (.slice (some ⟨w.heap.size, 0, none⟩) n n), ℓ, _, _, hrun, rfl, List.prefix_refl _, ⟨rfl, rfl, hsz, fun b hb _ => hold b hb⟩, hG2, fun b hb => ?_, h _⟩
  rcases hf b hb with h1 | h1
  · rw [hm1] at h1; exact .inl h1
  · exact .inr h1

theorem wfB_of {n : Nat} : ∀ {l : List Blk}, (∀ k ∈ l, k.wf n = true) → wfB n l = true
  | [], _ => rfl
  | k :: r, h => by
    simp only [wfB]
    rw [h k (List.mem_cons_self ..)]
    exact wfB_of (fun q hq => h q (List.mem_cons_of_mem _ hq))

/-- Own blocks picked by their numbers, numbered anew. -/
theorem Good.pick {J : Nat → Prop} {ℓ : List Base} {o own : List Blk} {accs : List Acc} {rs : List (Value × D)} {w : World} (hG : Good J ℓ ⟨o, accs, rs⟩ w) (ix : List Nat) (hn : noDup ix = true) (hown : pickR o ix = some (own.map (Blk.ren (rixD ix)))) (hw : wfB ix.length own = true) :
    Good J (ix.map (fun i => ℓ.getD i default)) ⟨own, accs, rs⟩ w ∧ ∀ b ∈ mutS (ix.map (fun i => ℓ.getD i default)) ⟨own, accs, rs⟩, b ∈ mutS ℓ ⟨o, accs, rs⟩ := by
  have hn := noDup_spec hn
  obtain ⟨hlen0, hget⟩ := pickR_get hown
  have hlen : own.length = ix.length := by simpa using hlen0.symm
  have hown' : ∀ (p : Nat) (k : Blk), own[p]? = some k → ∃ i, ix[p]? = some i ∧ o[i]? = some (k.ren (rixD ix)) ∧ k.wf ix.length = true := by
    intro p k hp
    obtain ⟨i, h3, h4⟩ := hget p (k.ren (rixD ix)) (by rw [List.getElem?_map, hp]; rfl)
    exact ⟨i, h3, h4, wfB_spec hw k (List.mem_of_getElem? hp)⟩
  let ℓs : List Base := ix.map (fun i => ℓ.getD i default)
  have hixlt : ∀ (p i : Nat), ix[p]? = some i → i < o.length := by
    intro p i hp
    have hp' : p < own.length := by rw [hlen]; exact (List.getElem?_eq_some_iff.1 hp).1
    obtain ⟨i', h1, h2, _⟩ := hown' p own[p] (List.getElem?_eq_getElem hp')
    rw [hp] at h1
    cases h1
    exact (List.getElem?_eq_some_iff.1 h2).1
  have hr : ∀ i, i < ix.length → ℓ.getD (rixD ix i) default = ℓs.getD i default := by
    intro i hi
    simp [ℓs, rixD, List.getD, List.getElem?_map, List.getElem?_eq_getElem hi]
  have hℓs : ∀ (p : Nat) (b : Base), ℓs[p]? = some b → ∃ i, ix[p]? = some i ∧ ℓ[i]? = some b := by
    intro p b hp
    simp only [ℓs, List.getElem?_map, Option.map_eq_some_iff] at hp
    obtain ⟨i, hi, rfl⟩ := hp
    have hlt : i < ℓ.length := by rw [hG.len]; exact hixlt p i hi
    exact ⟨i, hi, by simp [List.getD, List.getElem?_eq_getElem hlt]⟩
  have hmem : ∀ b, b ∈ mutL ℓs own → b ∈ mutL ℓ o := by
    intro b hb
    obtain ⟨p, b', q, h1, h2, h3, h4⟩ := mem_mutL.1 hb
    obtain ⟨i, h5, h6⟩ := hℓs p b' h1
    obtain ⟨i', h7, h8, _⟩ := hown' p q h2
    rw [h5] at h7
    cases h7
    exact mem_mutL.2 ⟨i, b', _, h6, h8, by rw [Blk.ren_mut]; exact h3, h4⟩
  have hnS := hG.nodup
  simp only [mutS] at hnS
  rw [List.nodup_append] at hnS
  obtain ⟨hnA, hnC, hAC⟩ := hnS
  have hnd : (mutL ℓs own).Nodup := by
    refine mutL_nodup ?_
    intro p q b b' k1 k2 h1 h2 h3 h4 h5 h6 h7
    obtain ⟨i, e1, e2⟩ := hℓs p b h1
    obtain ⟨j, e3, e4⟩ := hℓs q b' h4
    obtain ⟨i', e5, e6, _⟩ := hown' p k1 h2
    obtain ⟨j', e7, e8, _⟩ := hown' q k2 h5
    rw [e1] at e5; cases e5
    rw [e3] at e7; cases e7
    have := mutL_uniq hnA i j b b' _ _ e2 e6 (by rw [Blk.ren_mut]; exact h3) e4 e8 (by rw [Blk.ren_mut]; exact h6) h7
    subst this
    have hp1 := (List.getElem?_eq_some_iff.1 e1)
    have hq1 := (List.getElem?_eq_some_iff.1 e3)
    exact (List.getElem_inj hn).1 (hp1.2.trans hq1.2.symm)
  have hmemS : ∀ b, b ∈ mutS ℓs ⟨own, accs, rs⟩ → b ∈ mutS ℓ ⟨o, accs, rs⟩ := fun b hb => by
    simp only [mutS] at hb ⊢
    rcases List.mem_append.1 hb with h1 | h1
    · exact List.mem_append.2 (.inl (hmem b h1))
    · exact List.mem_append.2 (.inr h1)
  have hJin : ∀ b, Jx J (mutS ℓ ⟨o, accs, rs⟩) b → Jx J (mutS ℓs ⟨own, accs, rs⟩) b := fun b ⟨h1, h2⟩ => ⟨h1, fun hb => h2 (hmemS b hb)⟩
  refine ⟨⟨by simp [hlen], ?_, fun b hb => hG.lt b (hmemS b hb), fun b hb => hG.memJ b (hmemS b hb), ?_, ?_, ?_, ?_⟩, hmemS⟩
  · simp only [mutS]
    rw [List.nodup_append]
    exact ⟨hnd, hnC, fun x hx y hy e => hAC x (hmem x hx) y hy e⟩
  · intro q hq
    obtain ⟨p, hp⟩ := List.getElem?_of_mem hq
    simp only [hlen]
    exact (hown' p q hp).choose_spec.2.2
  · intro p b q hb hq
    obtain ⟨i, e1, e2⟩ := hℓs p b hb
    obtain ⟨i', e3, e4, e5⟩ := hown' p q hq
    rw [e1] at e3; cases e3
    exact (hG.own i b _ e2 e4).unren hr e5 hJin
  · intro ac hac
    exact (hG.accs ac hac).keep (fun x _ hj => ⟨hJin x hj, rfl⟩) (fun _ _ _ => rfl)
  · intro p hp
    exact (hG.reps p hp).map (fun b _ hb => ⟨hJin b hb, rfl⟩)

/-- A part of the state, by numbers, the own blocks numbered anew. -/
theorem StLeR.gen {S : St} (ix : List Nat) (ag : List ASel) (rs : List RSel) {own : List Blk} {accs : List Acc} {reps : List (Value × D)} (hown : pickR S.own ix = some (own.map (Blk.ren (rixD ix)))) (ha : selAccs S ag = some accs) (hr : selReps S rs = some reps)
    (hn : noDup ix = true) (hw : wfB ix.length own = true) (hd : noDup (oldsA ag) = true) (hf : apartN (oldsA ag) (frozR rs) = true) : StLeR ix S ⟨own, accs, reps⟩ := by
  refine ⟨by have := (pickR_get hown).1; simpa using this, fun J ℓ w hG => ?_⟩
  have h1 : StLe S ⟨S.own, accs, reps⟩ := by
    refine ⟨Nat.le_refl _, fun J ℓ w hG => ?_⟩
    have hwS : wfB S.own.length S.own = true := wfB_of hG.wf
    have h2 := StLe.gen (S := S) S.own.length ag rs (List.take_length) ha hr (Nat.ble_self_eq_true _) hwS hd hf
    exact h2.2 J ℓ w hG
  obtain ⟨hg, hm⟩ := h1.2 J ℓ w hG
  simp only [← hG.len, List.take_length] at hg hm
  obtain ⟨hg2, hm2⟩ := hg.pick ix hn hown hw
  exact ⟨hg2, fun b hb => hm b (hm2 b hb)⟩

def splitR {α : Type} : List α → Nat → List Nat → List α × List α
  | [], _, _ => ([], [])
  | a :: l, _, [] => ([], a :: l)
  | a :: l, k, j :: js => match Nat.beq j k with
    | true => (a :: (splitR l (k + 1) js).1, (splitR l (k + 1) js).2)
    | false => ((splitR l (k + 1) (j :: js)).1, a :: (splitR l (k + 1) (j :: js)).2)

theorem splitR_perm {α : Type} : ∀ (l : List α) (k : Nat) (js : List Nat), l.Perm ((splitR l k js).1 ++ (splitR l k js).2)
  | [], _, _ => .refl _
  | a :: l, _, [] => .refl _
  | a :: l, k, j :: js => by
    simp only [splitR]
    split
    · exact (splitR_perm l (k + 1) js).cons a
    · exact ((splitR_perm l (k + 1) (j :: js)).cons a).trans List.perm_middle.symm

/-- At a call that is handed own blocks and slices that may grow, by their numbers. -/
theorem Meets.frameRA {P : Program} {cl : Cal} {args : List SV} {own : List Blk} {accs rest : List Acc} {rs : List (Value × D)} {R : Out → St → Prop} {S : St} {K : Out → St → Prop} {cl' : Cal} {args' : List SV} (h : Meets P cl args ⟨own, accs, rs⟩ R) (ix ax js : List Nat)
    (hac : splitR S.accs 0 ax = (accs, rest)) (hcl' : cl' = cl.ren (rix ix)) (hargs' : args' = SV.renL (rix ix) args)
    (hn : noDup ix = true) (hown : pickR S.own ix = some (own.map (Blk.ren (rix ix)))) (hw : wfB ix.length own = true)
    (hrs : pickR S.reps js = some rs) (hargs : SV.wfL ix.length args = true) (hcl : cl.wf ix.length = true)
    (k : ∀ o s', R o s' → s'.own.map Blk.mut = own.map Blk.mut ∧ ∃ ks, s'.own.map (Blk.ren (rix ix)) = ks ∧ forceL (setAll S.own ix ks) (fun own => forceL (s'.accs ++ rest) (fun accs => forceL (S.reps ++ s'.reps) (fun reps => K (o.ren (rix ix)) ⟨own, accs, reps⟩)))) : Meets P cl' args' S K := by
  simp only [forceL_eq] at k
  obtain ⟨h1, h2⟩ := pickR_get hown
  have hlen : own.length = ix.length := by simpa using h1.symm
  have hown' : ∀ (p : Nat) (k : Blk), own[p]? = some k → ∃ i, ix[p]? = some i ∧ S.own[i]? = some (k.ren (rix ix)) ∧ k.wf ix.length = true := by
    intro p q hp
    obtain ⟨i, h3, h4⟩ := h2 p (q.ren (rix ix)) (by rw [List.getElem?_map, hp]; rfl)
    exact ⟨i, h3, h4, wfB_spec hw q (List.mem_of_getElem? hp)⟩
  have hc := rixN_low ix S.own.length
  have hperm : S.accs.Perm (accs ++ rest) := by
    have := splitR_perm S.accs 0 ax
    rw [hac] at this
    exact this
  refine Meets.frameG (rest := rest) h ix ?_ ?_ hperm (noDup_spec hn) hlen ?_ (pickR_mem hrs) hargs hcl ?_
  · rw [hcl']
    cases cl with
    | val F => simp only [Cal.ren]; rw [SV.ren_congr hc F hcl]
    | meth x name => simp only [Cal.ren]; rw [SV.ren_congr hc x hcl]
  · rw [hargs', SV.renL_congr hc args hargs]
  · intro p q hp
    obtain ⟨i, h1, h2, h3⟩ := hown' p q hp
    exact ⟨i, h1, by rw [← Blk.ren_congr hc h3]; exact h2, h3⟩
  · intro o s' hR hwo hws
    obtain ⟨hmut, ks, hks, hK⟩ := k o s' hR
    have hsl : s'.own.length = ix.length := by have := congrArg List.length hmut; simpa [hlen] using this
    refine ⟨s'.own, [], by simp, hmut, ?_⟩
    have e1 : s'.own.map (Blk.ren (rixN ix S.own.length)) = ks := by
      rw [← hks]
      refine List.map_congr_left (fun q hq => ?_)
      exact (Blk.ren_congr hc (by rw [← hsl]; exact hws q hq)).symm
    have e2 : o.ren (rixN ix S.own.length) = o.ren (rix ix) := by
      cases o with
      | ret x => simp only [Out.ren]; rw [SV.ren_congr hc x (by rw [← hsl]; exact hwo)]
      | pan x => simp only [Out.ren]; rw [SV.ren_congr hc x (by rw [← hsl]; exact hwo)]
    rw [e1, e2]
    simpa using hK

/-- The value of a datum of one cell. -/
def D.one : D → Option Value
  | .int k n => some (.int k n)
  | .bool b => some (.bool b)
  | .str s => some (.string s)
  | _ => none

theorem repC_one {J : Nat → Prop} {w : World} {d : D} {u : Value} (h : D.one d = some u) (cs : List Value) : RepC J w d cs ↔ cs = [u] := by
  cases d <;> simp only [D.one, Option.some.injEq, reduceCtorEq] at h <;> subst h <;> simp only [RepC]
theorem one_cell {d : D} {u : Value} (h : D.one d = some u) : u.oneCell' = true ∧ u.cells = #[u] := by
  cases d <;> simp only [D.one, Option.some.injEq, reduceCtorEq] at h <;> subst h <;> exact ⟨rfl, rfl⟩

theorem RepE.setOne {J : Nat → Prop} {w : World} {d0 : D} {u : Value} (hu : D.one d0 = some u) : ∀ {ds : List D} {cs : List Value} {i : Nat}, RepE J w 1 ds cs → i < ds.length → RepE J w 1 (ds.set i d0) (cs.set i u)
  | d :: ds, cs, 0, h, _ => by
    simp only [RepE] at h
    obtain ⟨c, cs, rfl⟩ : ∃ c r, cs = c :: r := by cases cs with | nil => simp at h | cons c r => exact ⟨c, r, rfl⟩
    simp only [List.set_cons_zero, RepE, List.length_cons, List.take_succ_cons, List.take_zero, List.drop_succ_cons, List.drop_zero] at h ⊢
    exact ⟨by omega, (repC_one hu _).2 rfl, h.2.2⟩
  | d :: ds, cs, i + 1, h, hlt => by
    simp only [RepE] at h
    obtain ⟨c, cs, rfl⟩ : ∃ c r, cs = c :: r := by cases cs with | nil => simp at h | cons c r => exact ⟨c, r, rfl⟩
    simp only [List.set_cons_succ, RepE, List.length_cons, List.take_succ_cons, List.take_zero, List.drop_succ_cons, List.drop_zero, List.length_set] at h ⊢
    exact ⟨h.1, h.2.1, RepE.setOne hu h.2.2 (by simpa using hlt)⟩

/-- The place of an element, of one cell, of a slice that may grow. -/
theorem at_index_accG {P : Program} {tt : Tab} (hT : TTOK P tt) {t e e' : TypeId} {x ix : SV} {S : St} {K : SV → St → Prop} {a : Option Addr} {n c : Nat} {i : Int} {kk : IntKind} {ds : List D} (j : Nat) (hx : x = .v (.slice a n c)) (hi : ix = .v (.int kk i)) (ht : tt t = some (.slice e 1))
    (hacc : nth S.accs j = some ⟨.slice a n c, 1, e', ds⟩) (h0 : decide (0 ≤ i ∧ i.toNat < ds.length) = true) (h : ∀ b, a = some ⟨b, 0, none⟩ → K (.v (.pointer (some ⟨b, i.toNat, none⟩))) S) : AtPure P (fun ℓ => Instr.indexAt t (x.den ℓ) (ix.den ℓ)) S K := by
  obtain ⟨h0, hlt⟩ := of_decide_eq_true h0
  constructor
  intro J ℓ w hG hJ
  have ha : S.accs[j]? = some ⟨.slice a n c, 1, e', ds⟩ := by rw [← nth_eq]; exact hacc
  rcases hG.accs _ (List.mem_of_getElem? ha) with ⟨_, hd⟩ | ⟨b, cap, cc, hv, _, _, _, _⟩
  · simp only at hd; subst hd; simp at hlt
  simp only [Value.slice.injEq] at hv
  obtain ⟨rfl, rfl, rfl⟩ := hv
  have := h b rfl
  rw [← Nat.mul_one i.toNat] at this
  exact (at_index_acc hT hx hi ht h0 (by omega) this).sem J ℓ w hG hJ

theorem tt_cell {P : Program} {tt : Tab} (hT : TTOK P tt) {t : TypeId} (ht : (∃ z, tt t = some (.cell z)) ∨ tt t = some .str) : (∀ w, (isAgg t).run P w = .ok false w) ∧ ∀ w, (sizeOf t).run P w = .ok 1 w := by
  rcases ht with ⟨z, h⟩ | h
  · have := hT t _ h; exact ⟨this.agg, this.size⟩
  · have := (hT t _ h).1; exact ⟨this.agg, this.size⟩

/-- An element of a slice that may grow. -/
theorem at_load_accG {P : Program} {tt : Tab} (hT : TTOK P tt) {t e : TypeId} {x : SV} {S : St} {K : SV → St → Prop} {b n c i : Nat} {d : D} {u : Value} {ds : List D} (j : Nat) (hacc : nth S.accs j = some ⟨.slice (some ⟨b, 0, none⟩) n c, 1, e, ds⟩) (hd : ds[i]? = some d) (hu : D.one d = some u)
    (ht : (∃ z, tt t = some (.cell z)) ∨ tt t = some .str) (hx : x = .v (.pointer (some ⟨b, i, none⟩))) (h : K (.v u) S) : AtSem P (fun ℓ => Instr.loadAt t (x.den ℓ)) S K := by
  subst hx
  constructor
  intro J ℓ w hG hJ
  have ha : S.accs[j]? = some ⟨.slice (some ⟨b, 0, none⟩) n c, 1, e, ds⟩ := by rw [← nth_eq]; exact hacc
  rcases hG.accs _ (List.mem_of_getElem? ha) with ⟨hv, _⟩ | ⟨b', cap, cc, hv, hb, _, _, hre⟩
  · cases hv
  simp only [Value.slice.injEq, Option.some.injEq, Addr.mk.injEq, and_true] at hv
  obtain ⟨⟨rfl, _⟩, _, _⟩ := hv
  obtain ⟨hl, hc⟩ := hre.get hd
  rw [repC_one hu] at hc
  simp only [Nat.mul_one] at hc hl
  have hget : cc.toList[i]? = some u := by
    have := congrArg (fun l => l[0]?) hc
    simpa [List.getElem?_take] using this
  have hcell : w.cell? ⟨b, i, none⟩ = some u := by
    simp only [World.cell?, hb]
    simpa using hget
  refine ⟨_, ℓ, S, w, ?_, rfl, List.prefix_refl _, Ext.refl _ _, hG, fun _ hb => .inl hb, h⟩
  simp only [SV.den, Instr.loadAt, Instr.sureAddr, pure_bind, loadVar, Sem.run_bind, (tt_cell hT ht).1, Result.andThen_ok, Bool.false_eq_true, if_false, run_load, hcell]

/-- An element of a slice that may grow is written. -/
theorem at_store_accG {P : Program} {tt : Tab} (hT : TTOK P tt) {t e : TypeId} {x s : SV} {S : St} {K : SV → St → Prop} {b n c i : Nat} {d : D} {u : Value} {ds ds' : List D} (j : Nat) (hacc : nth S.accs j = some ⟨.slice (some ⟨b, 0, none⟩) n c, 1, e, ds⟩) (hi : i < ds.length) (hu : D.one d = some u)
    (ht : (∃ z, tt t = some (.cell z)) ∨ tt t = some .str) (hx : x = .v (.pointer (some ⟨b, i, none⟩))) (hs : s = .v u) (hds : ds' = ds.set i d) (h : forceL (setNth S.accs j ⟨.slice (some ⟨b, 0, none⟩) n c, 1, e, ds'⟩) (fun accs => K undefS ⟨S.own, accs, S.reps⟩)) :
    AtSem P (fun ℓ => do Instr.storeAt t (x.den ℓ) (s.den ℓ); pure undef) S K := by
  subst hx hs hds
  rw [forceL_eq] at h
  obtain ⟨hu1, hu2⟩ := one_cell hu
  constructor
  intro J ℓ w hG hJ
  have ha : S.accs[j]? = some ⟨.slice (some ⟨b, 0, none⟩) n c, 1, e, ds⟩ := by rw [← nth_eq]; exact hacc
  rcases hG.accs _ (List.mem_of_getElem? ha) with ⟨hv, _⟩ | ⟨b', cap, cc, hv, hb, hcs, hle, hre⟩
  · cases hv
  simp only [Value.slice.injEq, Option.some.injEq, Addr.mk.injEq, and_true] at hv
  obtain ⟨⟨rfl, _⟩, rfl, rfl⟩ := hv
  simp only at hb hcs hle hre
  have hsz := (tt_cell hT ht).2 w
  have hicc : i < cc.size := by omega
  have hst := run_storeCells_at P b i e [u] 0 cc w hb (by simp; omega) (by simp [hu1])
  have hset : (cc.toList.take i ++ [u] ++ cc.toList.drop (i + 1)) = cc.toList.set i u := by
    rw [List.set_eq_take_append_cons_drop, if_pos (by simpa using hicc)]
    simp
  simp only [Nat.add_zero, List.length_cons, List.length_nil, Nat.zero_add, hset] at hst
  have hrow := setRow_heap w b cc (cc.toList.set i u).toArray e (0, 0) hb
  have hgood := hG.regrow (j := j) (a' := ⟨.slice (some ⟨b, 0, none⟩) ds.length c, 1, e, ds.set i d⟩) (w' := w.setRow b (cc.toList.set i u).toArray) hJ ha (by simp [World.setRow])
    (fun x hx hm => setRow_other w b x _ (fun e => hm (by simp [accBlk, e]))) (by simp [accBlk]) (fun x hx => ?_) (fun J' hj => ?_)
  · refine ⟨undefS, ℓ, _, w.setRow b (cc.toList.set i u).toArray, ?_, rfl, List.prefix_refl _, ⟨rfl, rfl, by simp [World.setRow], fun x hx hm => setRow_other w b x _ (fun e => hm ?_)⟩, hgood.1, hgood.2, h⟩
    · have hce : u.cells.size = 1 := by rw [hu2]; rfl
      have hcl : u.cells.toList = [u] := by rw [hu2]
      simp only [SV.den, Instr.storeAt, Instr.sureAddr, pure_bind, storeVar, Sem.run_bind, hsz, Result.andThen_ok, hce, ne_eq, not_true_eq_false, if_false, hcl, hst, Sem.run_pure, undefS, SV.denL, undef]
    · simp only [mutS]
      exact List.mem_append.2 (.inr (List.mem_flatMap.2 ⟨_, List.mem_of_getElem? ha, by simp [accBlk, e]⟩))
  · simp [accBlk] at hx
    subst hx
    exact ⟨.inl (by simp [accBlk]), by simpa [World.setRow] using lt_of_get hb⟩
  · refine .inr ⟨b, c, _, by simp, hrow, by simpa using hcs, by simpa using hle, ?_⟩
    simp only
    exact RepE.setOne hu (RepE.map hj 1 _ _ hre) hi

theorem map_set' {α : Type} (f : α → D) (l : List α) (i : Nat) (x : α) : (l.set i x).map f = (l.map f).set i (f x) := List.map_set

/-- Maps as lists of what was put, the latest at its first place. -/
def mget {κ β : Type} [DecidableEq κ] : List (κ × β) → κ → Option β
  | [], _ => none
  | (k, v) :: r, n => if n = k then some v else mget r n
def mput {κ β : Type} [DecidableEq κ] (n : κ) (v : β) : List (κ × β) → List (κ × β)
  | [] => [(n, v)]
  | (k, u) :: r => if n = k then (k, v) :: r else (k, u) :: mput n v r

def encM {κ β : Type} (f : β → Value) (l : List (κ × β)) : List (κ × Value) := l.map fun p => (p.1, f p.2)
theorem lookS_enc {β : Type} (f : β → Value) (n : ByteArray) : ∀ (l : List (ByteArray × β)), lookS (encM f l) n = (mget l n).map f
  | [] => rfl
  | (k, v) :: r => by
    have ih := lookS_enc f n r
    simp only [encM] at ih
    simp only [encM, List.map_cons, lookS, mget]
    split
    · rfl
    · exact ih
theorem putS_enc {β : Type} (f : β → Value) (n : ByteArray) (v : β) : ∀ (l : List (ByteArray × β)), putS n (f v) (encM f l) = encM f (mput n v l)
  | [] => rfl
  | (k, u) :: r => by
    have ih := putS_enc f n v r
    simp only [encM] at ih
    simp only [encM, List.map_cons, putS, mput]
    split
    · rfl
    · simp only [List.map_cons, ih]
theorem lookM_enc {β : Type} (f : β → Value) (n : Int) : ∀ (l : List (Int × β)), lookM (encM f l) n = (mget l n).map f
  | [] => rfl
  | (k, v) :: r => by
    have ih := lookM_enc f n r
    simp only [encM] at ih
    simp only [encM, List.map_cons, lookM, mget]
    split
    · rfl
    · exact ih
theorem putAt_enc {β : Type} (f : β → Value) (n : Int) (v : β) : ∀ (l : List (Int × β)), putAt n (f v) (encM f l) = encM f (mput n v l)
  | [] => rfl
  | (k, u) :: r => by
    have ih := putAt_enc f n v r
    simp only [encM] at ih
    simp only [encM, List.map_cons, putAt, mput]
    split
    · rfl
    · simp only [List.map_cons, ih]

theorem at_lookupSG {P : Program} {tt : Tab} (hT : TTOK P tt) {β : Type} (f : β → Value) (z : β) {t k e : TypeId} {x ix : SV} {S : St} {K : SV → St → Prop} {i : Nat} {n : ByteArray} {l : List (ByteArray × β)} {ok : Bool} (ht : tt t = some (.map k e)) (hk : P.underlying k = some .string) (hz : tt e = some (.cell (f z)))
    (hx : x = .mp i) (hi : nth S.own i = some (.obj (mapS (encM f l)))) (hix : ix = .v (.string n))
    (h : K (if ok then .tup [.v (f ((mget l n).getD z)), .v (.bool (mget l n).isSome)] else .v (f ((mget l n).getD z))) S) : AtSem P (fun ℓ => Instr.lookup t (x.den ℓ) (ix.den ℓ) ok) S K := by
  refine at_lookupS hT (f z) ht hk (hT e _ hz).zero hx hi hix ?_ ?_
  · intro v hv
    rw [lookS_enc, Option.map_eq_some_iff] at hv
    obtain ⟨u, hu, rfl⟩ := hv
    simpa [hu] using h
  · intro hv
    rw [lookS_enc, Option.map_eq_none_iff] at hv
    simpa [hv] using h

theorem at_lookupMG {P : Program} {tt : Tab} (hT : TTOK P tt) {β : Type} (f : β → Value) (z : β) {t k e : TypeId} {q : IntKind} {x ix : SV} {S : St} {K : SV → St → Prop} {i : Nat} {n : Int} {l : List (Int × β)} {ok : Bool} (ht : tt t = some (.map k e)) (hk : P.underlying k = some (.int q)) (hz : tt e = some (.cell (f z)))
    (hx : x = .mp i) (hi : nth S.own i = some (.obj (mapO q (encM f l)))) (hix : ix = .v (.int q n))
    (h : K (if ok then .tup [.v (f ((mget l n).getD z)), .v (.bool (mget l n).isSome)] else .v (f ((mget l n).getD z))) S) : AtSem P (fun ℓ => Instr.lookup t (x.den ℓ) (ix.den ℓ) ok) S K := by
  refine at_lookup hT (f z) ht hk (hT e _ hz).zero hx hi hix ?_ ?_
  · intro v hv
    rw [lookM_enc, Option.map_eq_some_iff] at hv
    obtain ⟨u, hu, rfl⟩ := hv
    simpa [hu] using h
  · intro hv
    rw [lookM_enc, Option.map_eq_none_iff] at hv
    simpa [hv] using h

theorem AtPure.le {P : Program} {m : List Base → Sem Value} {S S' : St} {K : SV → St → Prop} (h : StLe S S') (ho : S'.own = S.own) (k : AtPure P m S' K) : AtPure P m S K := by
  constructor
  intro J ℓ w hG hJ
  obtain ⟨h1, h2⟩ := h.2 J ℓ w hG
  rw [ho, ← hG.len, List.take_length] at h1 h2
  obtain ⟨r, ℓ', S'', a1, a2, a3, a4, a5, a6, a7⟩ := k.sem J ℓ w h1 hJ
  refine ⟨r, ℓ', S'', a1, a2, a3, a4, fun b hb => h2 b (a5 b hb), ?_, a7⟩
  intro i cs hi
  refine a6 i cs ?_
  rw [ho]; exact hi

/-- Two strings are put together. -/
theorem at_concat {P : Program} {t : TypeId} {x y : Operand} {a b : ByteArray} {S : St} {K : SV → St → Prop} (h : a.size + b.size ≤ 1000000) (k : K (.v (.string (a ++ b))) S) : AtPure P (fun ℓ => do eqGuard .add t x y ((SV.v (.string a)).den ℓ) ((SV.v (.string b)).den ℓ); binOp .add t ((SV.v (.string a)).den ℓ) ((SV.v (.string b)).den ℓ)) S K :=
  AtPure.val (.v (.string (a ++ b))) rfl (fun ℓ w => by
    have h1 : ¬ (((a.size + b.size : Nat) : Int) > IntKind.i64.max) := by
      have : IntKind.i64.max = 9223372036854775807 := by decide
      omega
    simp only [SV.den, Sem.run_bind, eqGuard_str, Result.andThen_ok, binOp, Op.stringOp]
    rw [if_neg h1]; rfl) k

end Go.Tr
end

/-! Hand -/
section
namespace Go.Proofs.YtpibdcjdamibdaaGreatDoor
open Go.Tr Go
set_option maxRecDepth 10000

theorem heads0 (hd : Int) (t : Tm) (k : Int) (l : List Int) (a a1 : Option Addr) (c c1 : Nat) (h1 : 0 ≤ k) (h2 : k + t.height ≤ 1000000) (h3 : l.length + t.count ≤ 1000000) :
    Pure Tryz.prog (fnS 31) [tmS t a c, iS hd, iS k, .v (.slice a1 (List.map (D.int .i64) l).length c1)] [tmR t a c, (.slice a1 (List.map (D.int .i64) l).length c1, .sl 1 (List.map (D.int .i64) l))]
      (fun r out => ∃ a' c', r = .v (.slice a' (List.map (D.int .i64) (headsF hd t k l)).length c') ∧ out = [(.slice a' (List.map (D.int .i64) (headsF hd t k l)).length c', .sl 1 (List.map (D.int .i64) (headsF hd t k l)))]) := by
  have := heads_spec hd t k l a a1 c c1 h1 h2 h3
  simp only [List.length_map]
  exact this
end Go.Proofs.YtpibdcjdamibdaaGreatDoor
end

/-! ItoaLay -/
section
namespace Go.Proofs.YtpibdcjdamibdaaGreatDoor
open Go Go.Shelf
def itoaRen : Go.Shelf.Ren := ⟨fun | 171 => 70 | 243 => 106 | 246 => 131 | 283 => 142 | 284 => 143 | 285 => 144 | 286 => 145 | 129 => 153 | 317 => 152 | 318 => 154 | 319 => 155 | 320 => 156 | 337 => 161 | 338 => 162 | n => n, fun | 3 => 3 | 9 => 9 | 2 => 2 | 4 => 4 | 171 => 179 | 0 => 0 | 53 => 180 | 37 => 122 | 5 => 5 | 173 => 183 | 212 => 196 | 51 => 197 | 20 => 20 | 213 => 198 | 46 => 200 | 232 => 206 | 233 => 207 | n => n, fun | 17 => 1 | 18 => 2 | 19 => 3 | n => n⟩
theorem itoaLays : Go.Proofs.Lays.n171 Tryz.prog itoaRen := {
  mixed := by kernel_rfl
  f129 := Tryz.func153.trans (congrArg some (by kernel_rfl))
  f171 := Tryz.func70.trans (congrArg some (by kernel_rfl))
  f243 := Tryz.func106.trans (congrArg some (by kernel_rfl))
  f246 := Tryz.func131.trans (congrArg some (by kernel_rfl))
  f283 := Tryz.func142.trans (congrArg some (by kernel_rfl))
  f284 := Tryz.func143.trans (congrArg some (by kernel_rfl))
  f285 := Tryz.func144.trans (congrArg some (by kernel_rfl))
  f286 := Tryz.func145.trans (congrArg some (by kernel_rfl))
  f317 := Tryz.func152.trans (congrArg some (by kernel_rfl))
  f318 := Tryz.func154.trans (congrArg some (by kernel_rfl))
  f319 := Tryz.func155.trans (congrArg some (by kernel_rfl))
  f320 := Tryz.func156.trans (congrArg some (by kernel_rfl))
  f337 := Tryz.func161.trans (congrArg some (by kernel_rfl))
  f338 := Tryz.func162.trans (congrArg some (by kernel_rfl))
  t0 := Tryz.underlying0
  a0 := Tryz.isAgg0
  z0 := Tryz.sizeOf0
  v0 := Tryz.zeroValue0
  t2 := Tryz.underlying2
  a2 := Tryz.isAgg2
  z2 := Tryz.sizeOf2
  v2 := Tryz.zeroValue2
  t3 := Tryz.underlying3
  a3 := Tryz.isAgg3
  z3 := Tryz.sizeOf3
  v3 := Tryz.zeroValue3
  t4 := Tryz.underlying4
  a4 := Tryz.isAgg4
  z4 := Tryz.sizeOf4
  v4 := Tryz.zeroValue4
  t5 := Tryz.underlying5
  a5 := Tryz.isAgg5
  z5 := Tryz.sizeOf5
  v5 := Tryz.zeroValue5
  t9 := Tryz.underlying9
  a9 := Tryz.isAgg9
  z9 := Tryz.sizeOf9
  v9 := Tryz.zeroValue9
  t20 := Tryz.underlying20
  a20 := Tryz.isAgg20
  z20 := Tryz.sizeOf20
  v20 := Tryz.zeroValue20
  t37 := Tryz.underlying122
  a37 := Tryz.isAgg122
  z37 := Tryz.sizeOf122
  v37 := Tryz.zeroValue122
  t46 := Tryz.underlying200
  a46 := Tryz.isAgg200
  z46 := Tryz.sizeOf200
  v46 := Tryz.zeroValue200
  t51 := Tryz.underlying197
  a51 := Tryz.isAgg197
  z51 := Tryz.sizeOf197
  v51 := Tryz.zeroValue197
  t53 := Tryz.underlying180
  a53 := Tryz.isAgg180
  z53 := Tryz.sizeOf180
  v53 := Tryz.zeroValue180
  t171 := Tryz.underlying179
  a171 := Tryz.isAgg179
  z171 := Tryz.sizeOf179
  v171 := Tryz.zeroValue179
  t173 := Tryz.underlying183
  a173 := Tryz.isAgg183
  z173 := Tryz.sizeOf183
  v173 := Tryz.zeroValue183
  t212 := Tryz.underlying196
  a212 := Tryz.isAgg196
  z212 := Tryz.sizeOf196
  v212 := Tryz.zeroValue196
  t213 := Tryz.underlying198
  a213 := Tryz.isAgg198
  z213 := Tryz.sizeOf198
  t232 := Tryz.underlying206
  a232 := Tryz.isAgg206
  z232 := Tryz.sizeOf206
  v232 := Tryz.zeroValue206
  t233 := Tryz.underlying207
  a233 := Tryz.isAgg207
  z233 := Tryz.sizeOf207
  v233 := Tryz.zeroValue207
  g17 := by kernel_rfl
  g18 := by kernel_rfl
  g19 := by kernel_rfl }
end Go.Proofs.YtpibdcjdamibdaaGreatDoor
end
