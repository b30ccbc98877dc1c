/- Orders that fit; the contracts of isOrder, Right, ContainsFunc, small. Conditions: the arguments read as orders and terms. -/
import Derived.Test.YtjjgfenincdgpaaOrders
import Derived.Test.YtjjgfenincdgpaaFwQ
namespace Go.Proofs.Ytjjgfenincdgpaa
open Go.Tr Go
set_option maxRecDepth 10000

theorem Od.enc_eq (t : Od) : t.enc = .agg [.int .i64 t.op, .int .i64 t.n, .sl 3 (Od.encL t.parts)] := by cases t; rfl

mutual
def Od.height : Od → Nat
  | .mk _ _ ps => Od.heightL ps + 1
def Od.heightL : List Od → Nat
  | [] => 0
  | p :: ps => max p.height (Od.heightL ps)
 end

mutual
/-- An order of so many arguments, below so many others. -/
def rightF (m : Int) : Od → Int → Bool
  | .mk o n ps, d => if o = 1 then ((decide (0 ≤ n) && decide (n < m)) && ps.isEmpty) && decide (d < 4)
      else if (((o = 2 ∨ o = 3) ∧ n = 0) ∧ (1 ≤ ps.length ∧ ps.length ≤ 8)) ∧ d < 4 then rightL m ps (d + 1) else false
def rightL (m : Int) : List Od → Int → Bool
  | [], _ => true
  | p :: ps, d => rightF m p d && rightL m ps d
 end
theorem rightF_eq (m : Int) (t : Od) (d : Int) : rightF m t d = if t.op = 1 then ((decide (0 ≤ t.n) && decide (t.n < m)) && t.parts.isEmpty) && decide (d < 4)
      else if (((t.op = 2 ∨ t.op = 3) ∧ t.n = 0) ∧ (1 ≤ t.parts.length ∧ t.parts.length ≤ 8)) ∧ d < 4 then rightL m t.parts (d + 1) else false := by cases t; rfl

theorem right_spec (m : Int) (t : Od) : ∀ (d : Int) (a : Option Addr) (c : Nat), 0 ≤ d → d ≤ 1000000 → Pure Try.prog (fnS 40) [odS t a c, iS m, iS (d + 1)] [odR t a c] (fun r out => r = bS (rightF m t d) ∧ out = []) := by
  induction t using Od.ind with
  | h t ih =>
  intro d a c hd0 hd1
  refine Meets.of_ok fun hok => ?_
  have hB : (Od.encL t.parts).length ≤ 1152921504606846976 := (hok _ (List.mem_cons_self ..)).1
  have hlen := Od.encL_length t.parts
  have hF := rightF_eq m t d
  refine spec_of_body (N := 76) (m := 0) (dt := fun _ => none) [] ttOK Try.func40 rfl Try.call40 Try.ntmps40 rfl rfl rfl mixed (by kernel_rfl) ?_
  refine AtIf.mk (fun h1 => ?_) (fun h1 => ?_)
  · have h1 : t.op = 1 := by simpa using h1
    rw [if_pos h1] at hF
    refine AtRet.pure [] rfl (by simp) ⟨?_, rfl⟩
    rw [hF]
    congr 2
    rw [Bool.eq_iff_iff]
    simp [hlen]
    omega
  have h1 : ¬ t.op = 1 := by simpa using h1
  rw [if_neg h1] at hF
  refine AtIf.mk (fun h2 => ?_) (fun h2 => ?_)
  · have hno : ¬ ((((t.op = 2 ∨ t.op = 3) ∧ t.n = 0) ∧ (1 ≤ t.parts.length ∧ t.parts.length ≤ 8)) ∧ d < 4) := by
      simp [hlen] at h2
      omega
    rw [if_neg hno] at hF
    exact AtRet.pure [] rfl (by simp) ⟨by rw [hF], rfl⟩
  have hyes : (((t.op = 2 ∨ t.op = 3) ∧ t.n = 0) ∧ (1 ≤ t.parts.length ∧ t.parts.length ≤ 8)) ∧ d < 4 := by
    simp [hlen] at h2
    omega
  rw [if_pos hyes] at hF
  refine AtLoop.mk ⟨Nat, fun i => [(7, iS i), (3, .loc 0 0), (1, iS m), (2, iS (d + 1))], fun _ => ⟨[.cells 41 [iS t.op, iS t.n, .v (.slice a (Od.encL t.parts).length c)]], [], [odR t a c]⟩,
    fun i => i ≤ t.parts.length ∧ rightF m t d = rightL m (t.parts.drop i) (d + 1), fun i => t.parts.length - i, 0, ⟨Nat.zero_le _, hF⟩, ⟨rfl, rfl, rfl, rfl, trivial⟩, StLe.refl _, fun _ _ => ⟨rfl, rfl⟩, ?_⟩
  rintro i ⟨hi, hinv⟩
  refine AtIf.mk (fun h3 => ?_) (fun h3 => ?_)
  · simp only [decide_eq_true_eq, hlen] at h3
    obtain ⟨x, hx⟩ : ∃ x, t.parts[i]? = some x := ⟨_, List.getElem?_eq_getElem (by omega)⟩
    refine at_index ttOK 0 rfl rfl rfl rfl (by omega) (by rw [Int.toNat_natCast]; exact Od.encL_get hx) ?_
    intro b1 d1 _ _
    have hw2 : IntKind.i64.wrap (d + 1 + 1) = d + 1 + 1 := wrap_i64 (by omega) (by omega)
    have hsp := ih x (List.mem_of_getElem? hx) (d + 1) b1 d1 (by omega) (by omega)
    rw [← hw2] at hsp
    refine hsp.at (by simp) rfl rfl ?_
    rintro r out ⟨rfl, rfl⟩
    rw [drop_cons hx, rightL] at hinv
    refine AtIf.mk (fun h4 => ?_) (fun h4 => ?_)
    · have h4 : rightF m x (d + 1) = false := by simpa using h4
      exact AtRet.pure [] rfl (by simp) ⟨by rw [hinv, h4]; rfl, rfl⟩
    · have h4 : rightF m x (d + 1) = true := by simpa using h4
      have hw3 : IntKind.i64.wrap (i + 1) = ((i + 1 : Nat) : Int) := wrap_i64 (by omega) (by omega)
      exact ⟨i + 1, ⟨by omega, by rw [hinv, h4]; rfl⟩, by simp only; omega, ⟨by rw [← hw3]; rfl, rfl, rfl, rfl, trivial⟩, StLe.to _ _ rfl (by simp) rfl rfl⟩
  · simp only [decide_eq_false_iff_not, hlen] at h3
    rw [List.drop_of_length_le (by omega)] at hinv
    exact AtRet.pure [] rfl (by simp) ⟨by rw [hinv]; rfl, rfl⟩

theorem Right_spec (m : Int) (t : Od) (a : Option Addr) (c : Nat) : Pure Try.prog (fnS 22) [odS t a c, iS m] [odR t a c] (fun r out => r = bS (rightF m t 0) ∧ out = []) := by
  refine spec_of_body (N := 8) (m := 0) (dt := fun _ => none) [] ttOK Try.func22 rfl Try.call22 Try.ntmps22 rfl rfl rfl mixed (by kernel_rfl) ?_
  refine (right_spec m t 0 a c (by omega) (by omega)).at (by simp) rfl rfl ?_
  rintro r out ⟨rfl, rfl⟩
  exact AtRet.pure [] rfl (by simp) ⟨rfl, rfl⟩

mutual
def manyF : Od → Int → Int
  | .mk _ _ ps, d => if 30 < d then 1000 else manyL ps (d + 1) 1
def manyL : List Od → Int → Int → Int
  | [], _, n => n
  | p :: ps, d, n => if n ≤ 400 then manyL ps d (n + manyF p d) else n
 end
theorem manyF_eq (t : Od) (d : Int) : manyF t d = if 30 < d then 1000 else manyL t.parts (d + 1) 1 := by cases t; rfl

mutual
theorem manyF_le : ∀ (t : Od) (d : Int), 0 ≤ d → d ≤ 31 → 1 ≤ manyF t d ∧ manyF t d ≤ 1000 + 400 * (31 - d)
  | .mk o n ps, d, h0, h1 => by
    simp only [manyF]
    split
    · omega
    · have := manyL_le ps (d + 1) 1 (by omega) (by omega) (by omega) (by omega)
      omega
theorem manyL_le : ∀ (ps : List Od) (d n : Int), 0 ≤ d → d ≤ 31 → 1 ≤ n → n ≤ 1000 + 400 * (32 - d) → 1 ≤ manyL ps d n ∧ manyL ps d n ≤ 1000 + 400 * (32 - d)
  | [], d, n, _, _, _, _ => by simp only [manyL]; omega
  | p :: ps, d, n, h0, h1, h2, h3 => by
    simp only [manyL]
    split
    · have h4 := manyF_le p d h0 h1
      exact manyL_le ps d (n + manyF p d) h0 h1 (by omega) (by omega)
    · omega
 end

theorem many_spec (t : Od) : ∀ (d : Int) (a : Option Addr) (c : Nat), 0 ≤ d → d ≤ 31 → Pure Try.prog (fnS 34) [odS t a c, iS d] [odR t a c] (fun r out => r = iS (manyF t d) ∧ out = []) := by
  induction t using Od.ind with
  | h t ih =>
  intro d a c hd0 hd1
  refine Meets.of_ok fun hok => ?_
  have hB : (Od.encL t.parts).length ≤ 1152921504606846976 := (hok _ (List.mem_cons_self ..)).1
  have hlen := Od.encL_length t.parts
  have hF := manyF_eq t d
  refine spec_of_body (N := 31) (m := 0) (dt := fun _ => none) [] ttOK Try.func34 rfl Try.call34 Try.ntmps34 rfl rfl rfl mixed (by kernel_rfl) ?_
  refine AtIf.mk (fun h1 => ?_) (fun h1 => ?_)
  · have h1 : 30 < d := by simpa using h1
    exact AtRet.pure [] rfl (by simp) ⟨by rw [hF, if_pos h1], rfl⟩
  have h1 : ¬ 30 < d := by simpa using h1
  rw [if_neg h1] at hF
  refine AtLoop.mk ⟨Nat × Int, fun x => [(6, iS x.1), (5, iS x.2), (2, .loc 0 0), (1, iS d)], fun _ => ⟨[.cells 41 [iS t.op, iS t.n, .v (.slice a (Od.encL t.parts).length c)]], [], [odR t a c]⟩,
    fun x => x.1 ≤ t.parts.length ∧ (1 ≤ x.2 ∧ x.2 ≤ 1000000) ∧ manyF t d = manyL (t.parts.drop x.1) (d + 1) x.2, fun x => t.parts.length - x.1, (0, 1), ⟨Nat.zero_le _, ⟨Int.le_refl _, by decide⟩, hF⟩, ⟨rfl, rfl, rfl, rfl, trivial⟩, StLe.refl _, fun _ _ => ⟨rfl, rfl⟩, ?_⟩
  rintro ⟨i, n⟩ ⟨hi, hn, hinv⟩
  simp only at hi hn hinv ⊢
  refine AtIf.mk (fun h3 => ?_) (fun h3 => ?_)
  · simp only [Bool.and_eq_true, decide_eq_true_eq, hlen] at h3
    obtain ⟨x, hx⟩ : ∃ x, t.parts[i]? = some x := ⟨_, List.getElem?_eq_getElem (by omega)⟩
    refine at_index ttOK 0 rfl rfl rfl rfl (by omega) (by rw [Int.toNat_natCast]; exact Od.encL_get hx) ?_
    intro b1 d1 _ _
    have hw2 : IntKind.i64.wrap (d + 1) = d + 1 := wrap_i64 (by omega) (by omega)
    have hsp := ih x (List.mem_of_getElem? hx) (d + 1) b1 d1 (by omega) (by omega)
    rw [← hw2] at hsp
    refine hsp.at (by simp) rfl rfl ?_
    rintro r out ⟨rfl, rfl⟩
    have hle := manyF_le x (d + 1) (by omega) (by omega)
    have hw4 : IntKind.i64.wrap (n + manyF x (d + 1)) = n + manyF x (d + 1) := wrap_i64 (by omega) (by omega)
    rw [drop_cons hx, manyL, if_pos h3.2] at hinv
    have hw3 : IntKind.i64.wrap (i + 1) = ((i + 1 : Nat) : Int) := wrap_i64 (by omega) (by omega)
    exact ⟨(i + 1, n + manyF x (d + 1)), ⟨by omega, ⟨by simp only; omega, by simp only; omega⟩, hinv⟩, by simp only; omega, ⟨by rw [← hw3]; rfl, by simp only [hw2, hw4]; rfl, rfl, rfl, trivial⟩, StLe.to _ _ rfl (by simp) rfl rfl⟩
  · refine AtRet.pure [] rfl (by simp) ⟨?_, rfl⟩
    rw [hinv]
    by_cases hlt : i < t.parts.length
    · obtain ⟨x, hx⟩ : ∃ x, t.parts[i]? = some x := ⟨_, List.getElem?_eq_getElem (by omega)⟩
      simp only [Bool.and_eq_false_iff, decide_eq_false_iff_not, hlen] at h3
      rw [drop_cons hx, manyL, if_neg (by omega)]
    · rw [List.drop_of_length_le (by omega), manyL]

theorem small_spec (t : Od) (a : Option Addr) (c : Nat) : Pure Try.prog (fnS 18) [odS t a c] [odR t a c] (fun r out => r = bS (decide (manyF t 0 ≤ 400)) ∧ out = []) := by
  refine spec_of_body (N := 6) (m := 0) (dt := fun _ => none) [] ttOK Try.func18 rfl Try.call18 Try.ntmps18 rfl rfl rfl mixed (by kernel_rfl) ?_
  refine (many_spec t 0 a c (by omega) (by omega)).at (by simp) rfl rfl ?_
  rintro r out ⟨rfl, rfl⟩
  exact AtRet.pure [] rfl (by simp) ⟨rfl, rfl⟩
end Go.Proofs.Ytjjgfenincdgpaa
