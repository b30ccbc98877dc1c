/- The contracts of trussref15's lams and of its work's variable and same. Conditions: the arguments read as proper terms; small numbers of binders. -/
import Derived.Test.YtjjgfenincdgpaaRef3D
import Derived.Test.YtjjgfenincdgpaaFwQ
namespace Go.Proofs.Ytjjgfenincdgpaa
open Go.Tr Go
set_option maxRecDepth 10000

theorem lams_spec (t : Tm) (a : Option Addr) (c : Nat) (hl : lamOK t = true) (hh : t.height ≤ 1000000) : Pure Try.prog (fnS 47) [tmS t a c] [tmR t a c]
    (fun r out => ∃ a' c', r = .tup [iS (stripF t).2, tmS (stripF t).1 a' c'] ∧ out = [tmR (stripF t).1 a' c']) := by
  refine spec_of_body (N := 16) (m := 0) (dt := drawsOf [(5, .node [0, 1, 2] [(3, .leaf [])], [3])]) [] ttOK Try.func47 rfl Try.call47 Try.ntmps47 rfl rfl rfl mixed (by kernel_rfl) ?_
  refine AtLoop.mk ⟨Tm × Nat × Option Addr × Nat, fun x => [(4, iS x.2.1), (1, .loc 0 0), (3, .loc 1 0)], fun x => ⟨[.cells 24 [iS x.1.op, iS x.1.hd, iS x.1.n, .v (.slice x.2.2.1 (Tm.encL x.1.args).length x.2.2.2)], .cells 24 [iS 0, iS 0, iS 0, .v (.slice none 0 0)]], [], [tmR x.1 x.2.2.1 x.2.2.2]⟩,
    fun x => lamOK x.1 = true ∧ x.2.1 + x.1.height ≤ 1000000 ∧ stripF t = ((stripF x.1).1, (stripF x.1).2 + x.2.1), fun x => x.1.height, (t, 0, a, c), ⟨hl, by simpa using hh, by simp⟩, ⟨rfl, rfl, rfl, trivial⟩, StLe.refl _, fun _ _ => ⟨rfl, rfl⟩, ?_⟩
  rintro ⟨u, i, a1, c1⟩ ⟨hu, hb, hinv⟩
  simp only at hu hb hinv ⊢
  refine AtIf.mk (fun h => ?_) (fun h => ?_)
  · simp only [beq_iff_eq] at h
    have hne := lamOK_ne hu h
    obtain ⟨v, vs, hargs⟩ : ∃ v vs, u.args = v :: vs := List.exists_cons_of_ne_nil hne
    have hv : u.args[0]? = some v := by rw [hargs]; rfl
    have hvm : v ∈ u.args := List.mem_of_getElem? hv
    have hht := Tm.height_le hvm
    have hhe := Tm.height_eq u
    refine at_index ttOK 0 rfl rfl rfl rfl (by omega) (Tm.encL_get hv) ?_
    intro a2 c2 _ _
    have hw3 : IntKind.i64.wrap (i + 1) = ((i + 1 : Nat) : Int) := wrap_i64 (by omega) (by omega)
    refine ⟨(v, i + 1, a2, c2), ⟨lamOK_arg hu hvm, by simp only; omega, ?_⟩, by simp only; omega, ⟨by rw [← hw3]; rfl, rfl, rfl, trivial⟩, StLe.to _ _ rfl (by simp) rfl rfl⟩
    rw [hinv, stripF_lam h hargs]
    simp only [Nat.add_assoc, Nat.add_comm 1 i]
  · simp only [beq_eq_false_iff_ne] at h
    rw [stripF_no h] at hinv
    refine AtRet.pure [tmR u a1 c1] rfl (by simp) ?_
    rw [hinv]
    exact ⟨a1, c1, by simp, rfl⟩

def varF (fx a b k : Int) (l : List Int) : Bool × List Int :=
  if b < k then (a == b, l) else
  if b - k ≥ l.length then (decide (a ≥ k) && (a - k == b - k - l.length), l) else
  if (a - k < 0 ∨ a - k ≥ fx) ∨ (l.getD (b - k).toNat 0 ≥ 0 ∧ l.getD (b - k).toNat 0 ≠ a - k) then (false, l) else (true, l.set (b - k).toNat (a - k))

theorem varF_length (fx a b k : Int) (l : List Int) : (varF fx a b k l).2.length = l.length := by
  unfold varF
  split
  · rfl
  · split
    · rfl
    · split <;> simp

abbrev workB (fx : Int) (ad : Option Addr) (n c : Nat) : Blk := .cells 104 [iS fx, .v (.slice ad n c)]
abbrev forA (l : List Int) (ad : Option Addr) (c : Nat) : Acc := ⟨.slice ad l.length c, 1, 3, l.map (D.int .i64)⟩

theorem var_spec (fx a b k : Int) (l : List Int) (ad : Option Addr) (c : Nat) (ha0 : 0 ≤ a) (ha1 : a ≤ 9999) (hb0 : 0 ≤ b) (hb1 : b ≤ 9999) (hk0 : 0 ≤ k) (hk1 : k ≤ 1000000) :
    Meets Try.prog (fnS 73) [.loc 0 0, iS a, iS b, iS k] ⟨[workB fx ad l.length c], [forA l ad c], []⟩ (fun o S' => o = .ret (bS (varF fx a b k l).1) ∧ S' = ⟨[workB fx ad l.length c], [forA (varF fx a b k l).2 ad c], []⟩) := by
  have hw1 : IntKind.i64.wrap (b - k) = b - k := wrap_i64 (by omega) (by omega)
  have hw2 : IntKind.i64.wrap (a - k) = a - k := wrap_i64 (by omega) (by omega)
  -- the slice is nil, or not
  have main : (∀ i, i < l.length → ∃ b0, ad = some ⟨b0, 0, none⟩) → l.length ≤ 1152921504606846976 → Meets Try.prog (fnS 73) [.loc 0 0, iS a, iS b, iS k] ⟨[workB fx ad l.length c], [forA l ad c], []⟩ (fun o S' => o = .ret (bS (varF fx a b k l).1) ∧ S' = ⟨[workB fx ad l.length c], [forA (varF fx a b k l).2 ad c], []⟩) := by
    intro had hll
    have hw3 : IntKind.i64.wrap (b - k - l.length) = b - k - l.length := wrap_i64 (by omega) (by omega)
    refine spec_of_body (N := 84) (m := 1) (dt := fun _ => none) [7] ttOK Try.func73 rfl Try.call73 Try.ntmps73 rfl rfl rfl mixed (by kernel_rfl) ?_
    refine AtIf.mk (fun h1 => ?_) (fun h1 => ?_)
    · have h1 : b < k := by simpa using h1
      refine ret_keep [workB fx ad l.length c] rfl rfl rfl rfl rfl ?_
      rw [varF, if_pos h1]
      refine ⟨?_, ?_⟩ <;> first | rfl | trivial
    have h1 : ¬ b < k := by simpa using h1
    refine AtIf.mk (fun h2 => ?_) (fun h2 => ?_)
    · rw [hw1] at h2
      have h2 : b - k ≥ l.length := by simpa using h2
      refine ret_keep [workB fx ad l.length c] rfl rfl rfl rfl rfl ?_
      rw [varF, if_neg h1, if_pos h2]
      simp only [hw1, hw2, hw3]
      refine ⟨?_, ?_⟩ <;> first | rfl | trivial
    rw [hw1] at h2
    have h2 : ¬ b - k ≥ l.length := by simpa using h2
    obtain ⟨x, hx⟩ : ∃ x, l[(b - k).toNat]? = some x := ⟨_, List.getElem?_eq_getElem (by omega)⟩
    obtain ⟨b0, rfl⟩ := had (b - k).toNat (by omega)
    have hgd : l.getD (b - k).toNat 0 = x := by simp [List.getD, hx]
    have hxd : (l.map (D.int .i64))[(b - k).toNat * 1]? = some (.int .i64 x) := by rw [Nat.mul_one]; exact ints_get hx
    have hlt : (b - k).toNat * 1 < (l.map (D.int .i64)).length := (List.getElem?_eq_some_iff.1 hxd).1
    have hF : varF fx a b k l = if (a - k < 0 ∨ a - k ≥ fx) ∨ (x ≥ 0 ∧ x ≠ a - k) then (false, l) else (true, l.set (b - k).toNat (a - k)) := by rw [varF, if_neg h1, if_neg h2, hgd]
    have hml : (l.map (D.int .i64)).length = l.length := List.length_map ..
    have bad : (a - k < 0 ∨ a - k ≥ fx) ∨ (x ≥ 0 ∧ x ≠ a - k) → varF fx a b k l = (false, l) := fun h => by rw [hF, if_pos h]
    have leave : ∀ {env : Env} {S : St}, (a - k < 0 ∨ a - k ≥ fx) ∨ (x ≥ 0 ∧ x ≠ a - k) → S = ⟨[workB fx (some ⟨b0, 0, none⟩) l.length c], [forA l (some ⟨b0, 0, none⟩) c], []⟩ →
        AtRet 1 (.ret (bS false)) S (fun o S' => o = .ret (bS (varF fx a b k l).1) ∧ S' = ⟨[workB fx (some ⟨b0, 0, none⟩) l.length c], [forA (varF fx a b k l).2 (some ⟨b0, 0, none⟩) c], []⟩) := by
      rintro env S h rfl
      refine ret_keep [workB fx (some ⟨b0, 0, none⟩) l.length c] rfl rfl rfl rfl rfl ?_
      rw [bad h]
      exact ⟨rfl, rfl⟩
    refine AtCut.mk ⟨Unit, fun _ => [(0, .loc 0 0), (9, iS (b - k)), (10, iS (a - k))], fun _ => ⟨[workB fx (some ⟨b0, 0, none⟩) l.length c], [forA l (some ⟨b0, 0, none⟩) c], []⟩,
      fun _ => ¬ ((a - k < 0 ∨ a - k ≥ fx) ∨ (x ≥ 0 ∧ x ≠ a - k)), fun _ _ => ⟨rfl, rfl⟩, ?_, ?_⟩
    · refine AtGuard.mk (fun h3 => ?_) (fun h3 => ?_)
      · rw [hw2] at h3
        have h3 : ¬ (a - k < 0 ∨ a - k ≥ fx) := by simpa using h3
        refine at_index_acc ttOK rfl rfl rfl (by rw [hw1]; omega) (by rw [hw1]; omega) ?_
        rw [hw1]
        refine at_load_acc ttOK 0 rfl hxd rfl rfl ?_
        refine AtGuard.mk (fun h4 => ?_) (fun h4 => ?_)
        · have h4 : x ≥ 0 := by simpa using h4
          refine at_index_acc ttOK rfl rfl rfl (by omega) (by omega) ?_
          refine at_load_acc ttOK 0 rfl hxd rfl rfl ?_
          refine AtIf.mk (fun h5 => ?_) (fun h5 => ?_)
          · rw [hw2] at h5
            have h5 : x ≠ a - k := by simpa using h5
            exact leave (env := []) (.inr ⟨h4, h5⟩) rfl
          · rw [hw2] at h5
            have h5 : x = a - k := by simpa using h5
            exact ⟨(), fun h => by rcases h with h | h; exact h3 h; exact h.2 h5, ⟨rfl, by first | rfl | (simp only [hw1]; rfl), by first | rfl | (simp only [hw2]; rfl), trivial⟩, StLe.refl _⟩
        · have h4 : ¬ x ≥ 0 := by simpa using h4
          refine AtIf.mk (fun h5 => ?_) (fun h5 => ?_)
          · simp at h5
          · exact ⟨(), fun h => by rcases h with h | h; exact h3 h; exact h4 h.1, ⟨rfl, by first | rfl | (simp only [hw1]; rfl), by first | rfl | (simp only [hw2]; rfl), trivial⟩, StLe.refl _⟩
      · rw [hw2] at h3
        have h3 : (a - k < 0 ∨ a - k ≥ fx) := by simpa using h3
        refine AtIf.mk (fun h5 => ?_) (fun h5 => ?_)
        · exact leave (env := []) (.inl h3) rfl
        · simp at h5
    intro _ hno
    refine at_index_acc ttOK rfl rfl rfl (by omega) (by omega) ?_
    refine at_store_acc ttOK 0 rfl hlt rfl rfl rfl ?_
    refine ret_keep [workB fx (some ⟨b0, 0, none⟩) l.length c] rfl rfl rfl rfl rfl ?_
    rw [hF, if_neg hno]
    refine ⟨rfl, ?_⟩
    simp only [forA, List.length_set, List.map_set, Nat.mul_one]
  refine Meets.accAddr (fun hv hd => ?_) (fun b0 cap hv hl => ?_)
  · have hl : l = [] := by simpa using hd
    subst hl
    exact main (fun i hi => by simp at hi) (by simp)
  · simp only [Value.slice.injEq] at hv
    refine main (fun i hi => ⟨b0, hv.1⟩) (by simpa using hl)

mutual
/-- What work.same answers, and what stands for the variables then. -/
def isF (fx : Int) : Tm → Tm → Int → List Int → Bool × List Int
  | .mk o h n us, u, k, l => if (o ≠ u.op ∨ h ≠ u.hd) ∨ us.length ≠ u.args.length then (false, l) else
      match (if o = 4 ∧ h = 1 then varF fx n u.n k l else (n == u.n, l)) with
      | (false, l') => (false, l')
      | (true, l') => isL fx o us u.args 0 k l'
def isL (fx : Int) : Int → List Tm → List Tm → Nat → Int → List Int → Bool × List Int
  | o, u :: us, v :: vs, i, k, l => match isF fx u v (k + under o i) l with
    | (false, l') => (false, l')
    | (true, l') => isL fx o us vs (i + 1) k l'
  | _, _, _, _, _, l => (true, l)
 end
theorem isF_eq (fx : Int) (t u : Tm) (k : Int) (l : List Int) : isF fx t u k l = if (t.op ≠ u.op ∨ t.hd ≠ u.hd) ∨ t.args.length ≠ u.args.length then (false, l) else
      match (if t.op = 4 ∧ t.hd = 1 then varF fx t.n u.n k l else (t.n == u.n, l)) with
      | (false, l') => (false, l')
      | (true, l') => isL fx t.op t.args u.args 0 k l' := by cases t; rfl

mutual
theorem isF_length (fx : Int) : ∀ (t u : Tm) (k : Int) (l : List Int), (isF fx t u k l).2.length = l.length
  | .mk o h n us, u, k, l => by
    simp only [isF]
    split
    · rfl
    · have h1 : (if o = 4 ∧ h = 1 then varF fx n u.n k l else (n == u.n, l)).2.length = l.length := by
        split
        · exact varF_length ..
        · rfl
      split
      · rename_i l' he; rw [he] at h1; exact h1
      · rename_i l' he; rw [he] at h1; exact (isL_length fx o us u.args 0 k l').trans h1
theorem isL_length (fx : Int) : ∀ (o : Int) (us vs : List Tm) (i : Nat) (k : Int) (l : List Int), (isL fx o us vs i k l).2.length = l.length
  | o, u :: us, v :: vs, i, k, l => by
    simp only [isL]
    have h1 := isF_length fx u v (k + under o i) l
    split
    · rename_i l' he; rw [he] at h1; exact h1
    · rename_i l' he; rw [he] at h1; exact (isL_length fx o us vs (i + 1) k l').trans h1
  | _, [], _, _, _, l => by simp [isL]
  | _, _ :: _, [], _, _, l => by simp [isL]
 end

theorem okAll_n {t : Tm} (h : okAll t = true) : 0 ≤ t.n ∧ t.n ≤ 9999 := by
  cases t with
  | mk o hd n us =>
    simp only [okAll, Bool.and_eq_true] at h
    have h1 := h.1
    simp only [Tm.n]
    unfold okNode at h1
    split at h1
    · simp at h1; omega
    · split at h1
      · simp at h1; omega
      · split at h1
        · simp at h1; omega
        · split at h1
          · simp at h1; omega
          · cases h1

theorem isSame_spec (fx : Int) (t : Tm) : ∀ (u : Tm) (k : Int) (l : List Int) (a1 a2 ad : Option Addr) (c1 c2 c : Nat), okAll t = true → okAll u = true → 0 ≤ k → k + t.height ≤ 1000000 →
    Meets Try.prog (fnS 68) [.loc 0 0, tmS t a1 c1, tmS u a2 c2, iS k] ⟨[workB fx ad l.length c], [forA l ad c], [tmR t a1 c1, tmR u a2 c2]⟩ (fun o S' => o = .ret (bS (isF fx t u k l).1) ∧ S' = ⟨[workB fx ad l.length c], [forA (isF fx t u k l).2 ad c], []⟩) := by
  induction t using Tm.ind with
  | h t ih =>
  intro u k l a1 a2 ad c1 c2 c hot hou hk0 hk1
  refine Meets.of_ok fun hok => ?_
  have hB : (Tm.encL t.args).length ≤ 1152921504606846976 := (hok _ (List.mem_cons_self ..)).1
  have hlen := Tm.encL_length t.args
  have hlen2 := Tm.encL_length u.args
  have hth := Tm.height_eq t
  have hF := isF_eq fx t u k l
  have htn := okAll_n hot
  have hun := okAll_n hou
  refine spec_of_body (N := 91) (m := 1) (dt := drawsOf [(17, .node [0, 1, 2, 3, 4, 5, 6, 7, 8, 9, 10, 11] [(12, .leaf [13])], [12])]) [4,6,15] ttOK Try.func68 rfl Try.call68 Try.ntmps68 rfl rfl rfl mixed (by kernel_rfl) ?_
  refine AtIf.mk (fun h1 => ?_) (fun h1 => ?_)
  · simp only [hlen, hlen2] at h1
    have h1 : (t.op ≠ u.op ∨ t.hd ≠ u.hd) ∨ t.args.length ≠ u.args.length := by
      simp at h1 ⊢
      omega
    rw [if_pos h1] at hF
    refine ret_keep [workB fx ad l.length c] rfl rfl rfl rfl rfl ?_
    rw [hF]
    exact ⟨rfl, rfl⟩
  simp only [hlen, hlen2] at h1
  have h1 : ¬ ((t.op ≠ u.op ∨ t.hd ≠ u.hd) ∨ t.args.length ≠ u.args.length) := by
    simp at h1 ⊢
    omega
  rw [if_neg h1] at hF
  have hll : t.args.length = u.args.length := by omega
  -- the binders within
  refine AtCut.mk ⟨Unit, fun _ => [(9, iS (k + if t.op = 3 then 1 else 0)), (0, .loc 0 0), (5, .loc 1 0), (6, .loc 2 0), (3, iS k)],
    fun _ => ⟨[workB fx ad l.length c, .cells 24 [iS t.op, iS t.hd, iS t.n, .v (.slice a1 (Tm.encL t.args).length c1)], .cells 24 [iS u.op, iS u.hd, iS u.n, .v (.slice a2 (Tm.encL u.args).length c2)]], [forA l ad c], [tmR t a1 c1, tmR u a2 c2]⟩, fun _ => True, fun _ _ => ⟨rfl, rfl⟩, ?_, ?_⟩
  · refine AtIf.mk (fun h2 => ?_) (fun h2 => ?_)
    · have h2 : t.op = 3 := by simpa using h2
      have hw1 : IntKind.i64.wrap (k + 1) = k + 1 := wrap_i64 (by omega) (by omega)
      exact ⟨(), trivial, ⟨by rw [if_pos h2]; simp only [hw1]; rfl, rfl, rfl, rfl, rfl, trivial⟩, StLe.refl _⟩
    · have h2 : ¬ t.op = 3 := by simpa using h2
      exact ⟨(), trivial, ⟨by rw [if_neg h2, Int.add_zero]; rfl, rfl, rfl, rfl, rfl, trivial⟩, StLe.refl _⟩
  intro _ _
  -- the numbers
  refine AtCut.mk ⟨List Int, fun _ => [(9, iS (k + if t.op = 3 then 1 else 0)), (0, .loc 0 0), (5, .loc 1 0), (6, .loc 2 0), (3, iS k)],
    fun l' => ⟨[workB fx ad l.length c, .cells 24 [iS t.op, iS t.hd, iS t.n, .v (.slice a1 (Tm.encL t.args).length c1)], .cells 24 [iS u.op, iS u.hd, iS u.n, .v (.slice a2 (Tm.encL u.args).length c2)]], [forA l' ad c], [tmR t a1 c1, tmR u a2 c2]⟩,
    fun l' => l'.length = l.length ∧ isF fx t u k l = isL fx t.op t.args u.args 0 k l', fun _ _ => ⟨rfl, rfl⟩, ?_, ?_⟩
  · refine AtIf.mk (fun h2 => ?_) (fun h2 => ?_)
    · have h2 : t.op = 4 ∧ t.hd = 1 := by simpa using h2
      rw [if_pos h2] at hF
      have hvl := varF_length fx t.n u.n k l
      refine (var_spec fx t.n u.n k l ad c htn.1 htn.2 hun.1 hun.2 hk0 (by omega)).frame0 _ [] rfl (by simp) (by intro q hq; simp at hq; subst hq; rfl) (by simp) rfl rfl ?_
      rintro o s' ⟨rfl, rfl⟩
      refine ⟨rfl, ?_⟩
      cases hv : varF fx t.n u.n k l with
      | mk b l' =>
      rw [hv] at hF hvl
      simp only at hF hvl ⊢
      cases b with
      | false =>
        refine AtIf.mk (fun _ => ?_) (fun h3 => by cases h3)
        refine ret_keep [workB fx ad l.length c] rfl rfl rfl rfl rfl ?_
        rw [hF]
        exact ⟨rfl, rfl⟩
      | true =>
        refine AtIf.mk (fun h3 => by cases h3) (fun _ => ?_)
        exact ⟨l', ⟨hvl, hF⟩, ⟨rfl, rfl, rfl, rfl, rfl, trivial⟩, StLe.of rfl (List.Sublist.refl _) (by simp) rfl rfl⟩
    · have h2 : ¬ (t.op = 4 ∧ t.hd = 1) := by
        intro hh
        simp [hh.1, hh.2] at h2
      rw [if_neg h2] at hF
      refine AtIf.mk (fun h3 => ?_) (fun h3 => ?_)
      · have h3 : (t.n == u.n) = false := by simpa using h3
        rw [h3] at hF
        refine ret_keep [workB fx ad l.length c] rfl rfl rfl rfl rfl ?_
        rw [hF]
        exact ⟨rfl, rfl⟩
      · have h3 : (t.n == u.n) = true := by simpa using h3
        rw [h3] at hF
        exact ⟨l, ⟨rfl, hF⟩, ⟨rfl, rfl, rfl, rfl, rfl, trivial⟩, StLe.refl _⟩
  rintro l1 ⟨hl1, hF1⟩
  refine AtLoop.mk ⟨Nat × List Int, fun x => [(10, iS x.1), (9, iS (k + if t.op = 3 then 1 else 0)), (0, .loc 0 0), (5, .loc 1 0), (6, .loc 2 0)],
    fun x => ⟨[workB fx ad l.length c, .cells 24 [iS t.op, iS t.hd, iS t.n, .v (.slice a1 (Tm.encL t.args).length c1)], .cells 24 [iS u.op, iS u.hd, iS u.n, .v (.slice a2 (Tm.encL u.args).length c2)]], [forA x.2 ad c], [tmR t a1 c1, tmR u a2 c2]⟩,
    fun x => x.1 ≤ t.args.length ∧ x.2.length = l.length ∧ isF fx t u k l = isL fx t.op (t.args.drop x.1) (u.args.drop x.1) x.1 k x.2, fun x => t.args.length - x.1, (0, l1), ⟨Nat.zero_le _, hl1, hF1⟩, ⟨rfl, rfl, rfl, rfl, rfl, trivial⟩, StLe.refl _, fun _ _ => ⟨rfl, rfl⟩, ?_⟩
  rintro ⟨i, l2⟩ ⟨hi, hl2, hinv⟩
  simp only at hi hl2 hinv ⊢
  refine AtIf.mk (fun h1 => ?_) (fun h1 => ?_)
  rotate_left
  · simp only [decide_eq_false_iff_not, hlen] at h1
    rw [List.drop_of_length_le (by omega)] at hinv
    simp only [isL] at hinv
    refine ret_keep [workB fx ad l.length c] rfl rfl rfl rfl rfl ?_
    rw [hinv]
    exact ⟨rfl, rfl⟩
  simp only [decide_eq_true_eq, hlen] at h1
  obtain ⟨x, hx⟩ : ∃ x, t.args[i]? = some x := ⟨_, List.getElem?_eq_getElem (by omega)⟩
  obtain ⟨y, hy⟩ : ∃ y, u.args[i]? = some y := ⟨_, List.getElem?_eq_getElem (by omega)⟩
  have hxm := List.mem_of_getElem? hx
  have hym := List.mem_of_getElem? hy
  have hxh := Tm.height_le hxm
  have hu := under_le t.op i
  rw [drop_cons hx, drop_cons hy, isL] at hinv
  refine AtCut.mk ⟨Unit, fun _ => [(11, iS (k + under t.op i)), (10, iS i), (9, iS (k + if t.op = 3 then 1 else 0)), (0, .loc 0 0), (5, .loc 1 0), (6, .loc 2 0)],
    fun _ => ⟨[workB fx ad l.length c, .cells 24 [iS t.op, iS t.hd, iS t.n, .v (.slice a1 (Tm.encL t.args).length c1)], .cells 24 [iS u.op, iS u.hd, iS u.n, .v (.slice a2 (Tm.encL u.args).length c2)]], [forA l2 ad c], [tmR t a1 c1, tmR u a2 c2]⟩, fun _ => True, fun _ _ => ⟨rfl, rfl⟩, ?_, ?_⟩
  · refine AtIf.mk (fun h2 => ?_) (fun h2 => ?_)
    · have h2 : t.op = 2 ∧ (i : Int) = 1 := by simpa using h2
      have hw1 : IntKind.i64.wrap (k + (if t.op = 3 then 1 else 0) + 1) = k + under t.op i := by
        have e1 : under t.op i = 1 := by rw [under, if_pos (.inr h2)]
        have e2 : (if t.op = 3 then (1 : Int) else 0) = 0 := if_neg (by omega)
        rw [e1, e2, Int.add_zero]
        exact wrap_i64 (by omega) (by omega)
      exact ⟨(), trivial, ⟨by simp only [hw1]; rfl, rfl, rfl, rfl, rfl, rfl, trivial⟩, StLe.refl _⟩
    · have h2 : ¬ (t.op = 2 ∧ (i : Int) = 1) := by
        intro hh
        simp [hh.1, hh.2] at h2
      have hw1 : k + (if t.op = 3 then 1 else 0) = k + under t.op i := by
        rw [under]
        by_cases h3 : t.op = 3
        · rw [if_pos h3, if_pos (.inl h3)]
        · rw [if_neg h3, if_neg (by rintro (h4 | h4); exact h3 h4; exact h2 h4)]
      exact ⟨(), trivial, ⟨by rw [← hw1]; rfl, rfl, rfl, rfl, rfl, rfl, trivial⟩, StLe.refl _⟩
  intro _ _
  refine at_index ttOK 0 rfl rfl rfl rfl (by omega) (by rw [Int.toNat_natCast]; exact Tm.encL_get hx) ?_
  intro b1 d1 _ _
  refine at_index ttOK 1 rfl rfl rfl rfl (by omega) (by rw [Int.toNat_natCast]; exact Tm.encL_get hy) ?_
  intro b2 d2 _ _
  have hsp := ih x hxm y (k + under t.op i) l2 b1 b2 ad d1 d2 c (okAll_arg hot hxm) (okAll_arg hou hym) (by omega) (by omega)
  rw [hl2] at hsp
  refine hsp.frame0 _ [] rfl (by simp) (by intro q hq; simp at hq; subst hq; rfl) (by simp) rfl rfl ?_
  rintro o s' ⟨rfl, rfl⟩
  refine ⟨rfl, ?_⟩
  have hil := isF_length fx x y (k + under t.op i) l2
  cases hv : isF fx x y (k + under t.op i) l2 with
  | mk b l' =>
  rw [hv] at hinv hil
  simp only at hinv hil ⊢
  cases b with
  | false =>
    refine AtIf.mk (fun _ => ?_) (fun h3 => by cases h3)
    refine ret_keep [workB fx ad l.length c] rfl rfl rfl rfl rfl ?_
    rw [hinv]
    exact ⟨rfl, rfl⟩
  | true =>
    refine AtIf.mk (fun h3 => by cases h3) (fun _ => ?_)
    have hw3 : IntKind.i64.wrap (i + 1) = ((i + 1 : Nat) : Int) := wrap_i64 (by omega) (by omega)
    exact ⟨(i + 1, l'), ⟨by omega, hil.trans hl2, hinv⟩, by simp only; omega, ⟨by rw [← hw3]; rfl, rfl, rfl, rfl, rfl, trivial⟩, StLe.of rfl (List.Sublist.refl _) (by simp) rfl rfl⟩

/-- What trussref15.is answers. -/
def isB (fx : Int) (t u : Tm) (many : Nat) : Bool := (isF fx t u 0 (List.replicate many (-1))).1

theorem is_spec (fx : Int) (t u : Tm) (many : Nat) (a1 a2 : Option Addr) (c1 c2 : Nat) (hot : okAll t = true) (hou : okAll u = true) (hh : t.height ≤ 1000000) (hm : many ≤ 1000000) :
    Pure Try.prog (fnS 61) [tmS t a1 c1, tmS u a2 c2, iS fx, iS many] [tmR t a1 c1, tmR u a2 c2] (fun r out => r = bS (isB fx t u many) ∧ out = []) := by
  refine Meets.nilAcc 1 3 ?_
  refine spec_of_body (N := 32) (m := 0) (dt := fun _ => none) [] ttOK Try.func61 rfl Try.call61 Try.ntmps61 rfl rfl rfl mixed (by kernel_rfl) ?_
  refine AtLoop.mk ⟨Nat × Option Addr × Nat, fun x => [(10, iS x.1), (9, .loc 2 0), (4, .loc 0 0), (5, .loc 1 0), (3, iS many)],
    fun x => ⟨[.cells 24 [iS t.op, iS t.hd, iS t.n, .v (.slice a1 (Tm.encL t.args).length c1)], .cells 24 [iS u.op, iS u.hd, iS u.n, .v (.slice a2 (Tm.encL u.args).length c2)], workB fx x.2.1 x.1 x.2.2], [⟨.slice x.2.1 x.1 x.2.2, 1, 3, (List.replicate x.1 (-1)).map (D.int .i64)⟩], [tmR t a1 c1, tmR u a2 c2]⟩,
    fun x => x.1 ≤ many, fun x => many - x.1, (0, none, 0), Nat.zero_le _, ⟨rfl, rfl, rfl, rfl, rfl, trivial⟩, StLe.refl _, fun _ _ => ⟨rfl, rfl⟩, ?_⟩
  rintro ⟨i, ad, c⟩ hi
  simp only at hi ⊢
  refine AtIf.mk (fun h1 => ?_) (fun h1 => ?_)
  · have h1 : i < many := by simpa using h1
    refine at_build ttOK 8 [.int .i64 (-1)] rfl (by kernel_rfl) ⟨⟨rfl, rfl, rfl, rfl⟩, trivial⟩ rfl (by decide) (by decide) ?_
    intro a3
    refine at_append ttOK 8 0 2 rfl (by kernel_rfl) rfl rfl rfl rfl (by simp; omega) (by simp; omega) ?_
    intro a4 c4
    have hw3 : IntKind.i64.wrap (i + 1) = ((i + 1 : Nat) : Int) := wrap_i64 (by omega) (by omega)
    have hln : ((List.replicate i (-1)).map (D.int .i64)).length = i := by simp
    have hds : (List.replicate i (-1)).map (D.int .i64) ++ [D.int .i64 (-1)] = (List.replicate (i + 1) (-1)).map (D.int .i64) := by simp [List.replicate_succ']
    refine ⟨(i + 1, a4, c4), by simp only; omega, by simp only; omega, ⟨by rw [← hw3]; rfl, rfl, rfl, rfl, rfl, trivial⟩, StLe.of ?_ ?_ (by simp) rfl rfl⟩
    · simp only [hln]; rfl
    · simp only [hln, hds]; exact List.Sublist.refl _
  · have h1 : ¬ i < many := by simpa using h1
    have hi : i = many := by omega
    subst hi
    have hln : (List.replicate i (-1 : Int)).length = i := by simp
    have hsp := isSame_spec fx t u 0 (List.replicate i (-1)) a1 a2 ad c1 c2 c hot hou (by omega) (by omega)
    simp only [forA, hln] at hsp
    refine hsp.frameG [2] (rest := []) rfl rfl (by simp) (by decide) rfl ?_ (by simp) rfl rfl ?_
    · intro p q hp
      match p, hp with
      | 0, hp => simp at hp; subst hp; exact ⟨2, rfl, rfl, rfl⟩
    rintro o s' ⟨rfl, rfl⟩ _ _
    refine ⟨[workB fx ad i c], [], rfl, rfl, ?_⟩
    exact AtRet.pure [] rfl (by simp) ⟨rfl, rfl⟩
end Go.Proofs.Ytjjgfenincdgpaa
