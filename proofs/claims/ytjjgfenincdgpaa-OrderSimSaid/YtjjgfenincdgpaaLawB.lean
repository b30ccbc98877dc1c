/- Plain law: which free variables a term has, for the program and for the reference. No program in sight. -/
import Derived.Test.YtjjgfenincdgpaaLawA
namespace Go.Proofs.Ytjjgfenincdgpaa
open Go.Tr Go
set_option maxRecDepth 10000

mutual
/-- The numbers of the free variables of a term, as they stand. -/
def fvF : Tm → Int → List Int
  | .mk o h n us, k => (if o = 4 ∧ h = 1 ∧ n ≥ k then [n - k] else []) ++ fvL o us 0 k
def fvL : Int → List Tm → Nat → Int → List Int
  | _, [], _, _ => []
  | o, u :: us, i, k => fvF u (k + under o i) ++ fvL o us (i + 1) k
 end

theorem mem_putF (x n : Int) : ∀ (l : List Int), x ∈ putF l n ↔ x = n ∨ x ∈ l
  | [] => by simp [putF]
  | y :: l => by
    simp only [putF]
    split
    · simp only [List.mem_cons, mem_putF x n l]
      constructor
      · rintro (h | h | h)
        · exact .inr (.inl h)
        · exact .inl h
        · exact .inr (.inr h)
      · rintro (h | h | h)
        · exact .inr (.inl h)
        · exact .inl h
        · exact .inr (.inr h)
    · split
      · rename_i h1 h2
        subst h2
        simp
      · simp

theorem putF_sorted (n : Int) : ∀ (l : List Int), l.Pairwise (· < ·) → (putF l n).Pairwise (· < ·)
  | [], _ => by simp [putF]
  | y :: l, h => by
    simp only [putF]
    rw [List.pairwise_cons] at h
    split
    · rename_i h1
      rw [List.pairwise_cons]
      refine ⟨?_, putF_sorted n l h.2⟩
      intro z hz
      rw [mem_putF] at hz
      rcases hz with rfl | hz
      · exact h1
      · exact h.1 z hz
    · split
      · rw [List.pairwise_cons]; exact h
      · rename_i h1 h2
        rw [List.pairwise_cons, List.pairwise_cons]
        refine ⟨?_, h⟩
        intro z hz
        rcases List.mem_cons.1 hz with rfl | hz
        · omega
        · have := h.1 z hz; omega

mutual
theorem heads_mem (x : Int) : ∀ (t : Tm) (k : Int) (l : List Int), okAll t = true → 0 ≤ k → k + t.height ≤ 1000000 → (x ∈ headsF 1 t k l ↔ x ∈ l ∨ x ∈ fvF t k)
  | .mk o h n us, k, l, hok, hk0, hk1 => by
    have hn := okAll_n hok
    simp only [Tm.n] at hn
    have hus : okAllL us = true := by simp only [okAll, Bool.and_eq_true] at hok; exact hok.2
    have hth : Tm.heightL us + 1 = (Tm.mk o h n us).height := by simp only [Tm.height]
    have w1 : IntKind.i64.wrap (n - k) = n - k := wrap_i64 (by omega) (by omega)
    simp only [headsF, fvF, w1, List.mem_append]
    rw [heads_memL x o us 0 k _ hus hk0 (by omega)]
    by_cases h1 : o = 4 ∧ h = 1
    · rw [if_pos h1, if_neg (by simp)]
      by_cases h2 : n ≥ k
      · rw [if_pos h2, if_pos ⟨h1.1, h1.2, h2⟩, mem_putF]
        simp only [List.mem_singleton, or_assoc]
        constructor
        · rintro (h | h | h)
          · exact .inr (.inl h)
          · exact .inl h
          · exact .inr (.inr h)
        · rintro (h | h | h)
          · exact .inr (.inl h)
          · exact .inl h
          · exact .inr (.inr h)
      · rw [if_neg h2, if_neg (fun h => h2 h.2.2)]
        simp
    · rw [if_neg h1, if_neg (fun h => h1 ⟨h.1, h.2.1⟩)]
      simp
theorem heads_memL (x : Int) : ∀ (o : Int) (us : List Tm) (i : Nat) (k : Int) (l : List Int), okAllL us = true → 0 ≤ k → k + 1 + Tm.heightL us ≤ 1000000 → (x ∈ headsL 1 o us i k l ↔ x ∈ l ∨ x ∈ fvL o us i k)
  | o, [], i, k, l, _, _, _ => by simp [headsL, fvL]
  | o, u :: us, i, k, l, hok, hk0, hk1 => by
    simp only [okAllL, Bool.and_eq_true] at hok
    simp only [Tm.heightL] at hk1
    have hu := under_le o i
    simp only [headsL, fvL, List.mem_append]
    rw [heads_memL x o us (i + 1) k _ hok.2 hk0 (by omega), heads_mem x u _ l hok.1 (by omega) (by omega), or_assoc]
 end

mutual
theorem heads_sorted : ∀ (t : Tm) (k : Int) (l : List Int), l.Pairwise (· < ·) → (headsF 1 t k l).Pairwise (· < ·)
  | .mk o h n us, k, l, hl => by
    simp only [headsF]
    refine heads_sortedL o us 0 k _ ?_
    split
    · split
      · exact putF_sorted _ _ hl
      · split
        · exact putF_sorted _ _ hl
        · exact hl
    · exact hl
theorem heads_sortedL : ∀ (o : Int) (us : List Tm) (i : Nat) (k : Int) (l : List Int), l.Pairwise (· < ·) → (headsL 1 o us i k l).Pairwise (· < ·)
  | o, [], i, k, l, hl => by simpa [headsL] using hl
  | o, u :: us, i, k, l, hl => by
    simp only [headsL]
    exact heads_sortedL o us (i + 1) k _ (heads_sorted u _ l hl)
 end

theorem mem_putAt (x n : Int) (v : Value) : ∀ (l : List (Int × Value)), x ∈ (putAt n v l).map (·.1) ↔ x = n ∨ x ∈ l.map (·.1)
  | [] => by simp [putAt]
  | (k, u) :: r => by
    simp only [putAt]
    split
    · rename_i h
      subst h
      simp
    · simp only [List.map_cons, List.mem_cons, mem_putAt x n v r]
      constructor
      · rintro (h | h | h)
        · exact .inr (.inl h)
        · exact .inl h
        · exact .inr (.inr h)
      · rintro (h | h | h)
        · exact .inr (.inl h)
        · exact .inl h
        · exact .inr (.inr h)

theorem noteStep_eq (o h n : Int) (us : List Tm) (k : Int) (l : List (Int × Value)) : noteStep freeOf l (.mk o h n us) k = if o = 4 ∧ h = 1 ∧ k ≤ n then putAt (IntKind.i64.wrap (n - k)) (.bool true) l else l := by
  have hc : ((Tm.mk o h n us).op = 4 ∧ (freeOf (.mk o h n us) k).2 = true) ↔ (o = 4 ∧ h = 1 ∧ k ≤ n) := by
    simp [freeOf, Tm.op, Tm.hd, Tm.n]
    intro _ _
    exact decide_eq_true_iff
  rw [noteStep]
  by_cases h1 : o = 4 ∧ h = 1 ∧ k ≤ n
  · rw [if_pos h1, if_pos (hc.2 h1)]; rfl
  · rw [if_neg h1, if_neg (fun h => h1 (hc.1 h))]

mutual
theorem walk_mem (x : Int) : ∀ (t : Tm) (k : Int) (l : List (Int × Value)), okAll t = true → 0 ≤ k → k + t.height ≤ 1000000 → (x ∈ (walkF (noteStep freeOf) t l k).map (·.1) ↔ x ∈ l.map (·.1) ∨ x ∈ fvF t k)
  | .mk o h n us, k, l, hok, hk0, hk1 => by
    have hn := okAll_n hok
    simp only [Tm.n] at hn
    have hus : okAllL us = true := by simp only [okAll, Bool.and_eq_true] at hok; exact hok.2
    have hth : Tm.heightL us + 1 = (Tm.mk o h n us).height := by simp only [Tm.height]
    have w1 : IntKind.i64.wrap (n - k) = n - k := wrap_i64 (by omega) (by omega)
    simp only [walkF, fvF, List.mem_append]
    rw [walk_memL x o us 0 k _ hus hk0 (by omega)]
    rw [noteStep_eq, w1]
    have hge : (o = 4 ∧ h = 1 ∧ n ≥ k) = (o = 4 ∧ h = 1 ∧ k ≤ n) := rfl
    simp only [hge]
    by_cases h1 : o = 4 ∧ h = 1 ∧ k ≤ n
    · rw [if_pos h1, if_pos h1, mem_putAt]
      simp only [List.mem_singleton, or_assoc]
      constructor
      · rintro (h | h | h)
        · exact .inr (.inl h)
        · exact .inl h
        · exact .inr (.inr h)
      · rintro (h | h | h)
        · exact .inr (.inl h)
        · exact .inl h
        · exact .inr (.inr h)
    · rw [if_neg h1, if_neg h1]
      simp
theorem walk_memL (x : Int) : ∀ (o : Int) (us : List Tm) (i : Nat) (k : Int) (l : List (Int × Value)), okAllL us = true → 0 ≤ k → k + 1 + Tm.heightL us ≤ 1000000 → (x ∈ (walkL (noteStep freeOf) o us i l k).map (·.1) ↔ x ∈ l.map (·.1) ∨ x ∈ fvL o us i k)
  | o, [], i, k, l, _, _, _ => by simp [walkL, fvL]
  | o, u :: us, i, k, l, hok, hk0, hk1 => by
    simp only [okAllL, Bool.and_eq_true] at hok
    simp only [Tm.heightL] at hk1
    have hu := under_le o i
    simp only [walkL, fvL, List.mem_append]
    rw [walk_memL x o us (i + 1) k _ hok.2 hk0 (by omega), walk_mem x u _ l hok.1 (by omega) (by omega), or_assoc]
 end

/-- The last number of an ascending list is its greatest. -/
theorem last_lt (n : Int) (l : List Int) (h : l.Pairwise (· ≤ ·)) : ((match l.getLast? with
  | none => true
  | some k => decide (k < n)) = true) ↔ ∀ x ∈ l, x < n := by
  cases hl : l.getLast? with
  | none =>
    rw [List.getLast?_eq_none_iff] at hl
    subst hl
    simp
  | some k =>
    obtain ⟨ys, rfl⟩ := List.getLast?_eq_some_iff.1 hl
    rw [List.pairwise_append] at h
    simp only [decide_eq_true_eq]
    constructor
    · intro hk x hx
      rcases List.mem_append.1 hx with hx | hx
      · have := h.2.2 x hx k (by simp); omega
      · simp at hx; omega
    · intro hk
      exact hk k (by simp)

theorem sorted_mem (x : Int) (l : List Int) : x ∈ sorted l ↔ x ∈ l := by
  simp only [sorted, List.mem_mergeSort]

theorem sorted_le (l : List Int) : (sorted l).Pairwise (· ≤ ·) := by
  have tr : ∀ a b c : Int, decide (a ≤ b) = true → decide (b ≤ c) = true → decide (a ≤ c) = true := by simp; omega
  have tot : ∀ a b : Int, (decide (a ≤ b) || decide (b ≤ a)) = true := by simp; omega
  exact (List.pairwise_mergeSort tr tot l).imp (by simp)

/-- An object among n variables. -/
theorem isObjectF_iff (t : Tm) (n : Int) : isObjectF t n = true ↔ isProper t = true ∧ ∀ x ∈ fvF t 0, x < n := by
  have key := last_lt n (numsOf freeOf t) (sorted_le _)
  rw [isObjectF, Bool.and_eq_true]
  constructor
  · rintro ⟨hp, h⟩
    have hpp := (isProper_iff t).1 hp
    refine ⟨hp, fun x hx => key.1 h x ?_⟩
    rw [numsOf, sorted_mem, walk_mem x t 0 [] hpp.1 (by omega) (by omega)]
    exact .inr hx
  · rintro ⟨hp, h⟩
    have hpp := (isProper_iff t).1 hp
    refine ⟨hp, key.2 fun x hx => h x ?_⟩
    rw [numsOf, sorted_mem, walk_mem x t 0 [] hpp.1 (by omega) (by omega)] at hx
    rcases hx with hx | hx
    · simp at hx
    · exact hx

theorem lawFree_iff (t : Tm) (n : Int) : lawFree t n = true ↔ isProper t = true ∧ ∀ x ∈ fvF t 0, x < n := by
  have key := last_lt n (headsF 1 t 0 []) ((heads_sorted t 0 [] List.Pairwise.nil).imp (fun h => Int.le_of_lt h))
  rw [lawFree, Bool.and_eq_true]
  constructor
  · rintro ⟨hp, h⟩
    have hpp := (isProper_iff t).1 hp
    refine ⟨hp, fun x hx => key.1 h x ?_⟩
    rw [heads_mem x t 0 [] hpp.1 (by omega) (by omega)]
    exact .inr hx
  · rintro ⟨hp, h⟩
    have hpp := (isProper_iff t).1 hp
    refine ⟨hp, key.2 fun x hx => h x ?_⟩
    rw [heads_mem x t 0 [] hpp.1 (by omega) (by omega)] at hx
    rcases hx with hx | hx
    · simp at hx
    · exact hx

theorem lawFree_eq (t : Tm) (n : Int) : lawFree t n = isObjectF t n := by rw [Bool.eq_iff_iff, lawFree_iff, isObjectF_iff]

/-- The program's answer is what the document asks for. -/
theorem compareE_eq (n fx : Int) (a b : Tm) : compareE n fx a b = if isScopeF n fx = true ∧ lawFree a n = true ∧ lawFree b n = true then (cmpF fx a b, 0) else (0, 2) := by
  rw [compareE, lawFree_eq, lawFree_eq]
  by_cases h : isScopeF n fx = true ∧ isObjectF a n = true ∧ isObjectF b n = true
  · rw [if_pos h, if_pos h]
    have ha := (isProper_iff a).1 (isObjectF_proper h.2.1)
    have hb := (isProper_iff b).1 (isObjectF_proper h.2.2)
    have hs := h.1
    simp only [isScopeF, Bool.and_eq_true, decide_eq_true_eq] at hs
    rw [compareF_eq fx a ha.1 (by omega) (by omega) (by omega) b hb.1 (by omega)]
  · rw [if_neg h, if_neg h]
end Go.Proofs.Ytjjgfenincdgpaa
