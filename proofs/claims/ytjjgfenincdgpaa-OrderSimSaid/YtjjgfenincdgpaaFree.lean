/- The contracts of maps.Keys, term.numbers and term.Free. Condition: the argument reads as a term. -/
import Derived.Test.YtjjgfenincdgpaaSorted
namespace Go.Proofs.Ytjjgfenincdgpaa
open Go.Tr Go
set_option maxRecDepth 10000

theorem keys_spec (l : List (Int × Value)) : Meets Try.prog (fnS 67) [.mp 0] ⟨[.obj (mapO .i64 l)], [], []⟩
    (fun o S' => o = .ret (.fn (.func 72) [] [.loc 1 0]) ∧ S' = ⟨[.obj (mapO .i64 l), .cells 95 [.mp 0]], [], []⟩) := by
  refine spec_of_body (N := 4) (m := 1) (dt := fun _ => none) [] ttOK Try.func67 rfl Try.call67 Try.ntmps67 rfl rfl rfl mixed (by kernel_rfl) ?_
  exact AtRet.mk ⟨⟨[.obj (mapO .i64 l), .cells 95 [.mp 0]], [], []⟩, StLe.to _ _ rfl (by simp) rfl rfl, Nat.le_of_ble_eq_true rfl, rfl, rfl, rfl⟩

/-- The numbers that the nodes of a term give. -/
def numsOf (f : Tm → Int → Int × Bool) (t : Tm) : List Int := sorted ((walkF (noteStep f) t [] 0).map (·.1))

theorem putAt_length (n : Int) (v : Value) : ∀ (l : List (Int × Value)), (putAt n v l).length ≤ l.length + 1
  | [] => by simp [putAt]
  | (k, u) :: r => by
    simp only [putAt]
    split
    · simp
    · simp; exact putAt_length n v r

mutual
def Tm.count : Tm → Nat
  | .mk _ _ _ args => Tm.countL args + 1
def Tm.countL : List Tm → Nat
  | [] => 0
  | t :: ts => t.count + Tm.countL ts
 end

theorem noteStep_length (f : Tm → Int → Int × Bool) (l : List (Int × Value)) (t : Tm) (b : Int) : (noteStep f l t b).length ≤ l.length + 1 := by
  unfold noteStep; split
  · exact putAt_length _ _ _
  · omega

mutual
theorem walkF_length (f : Tm → Int → Int × Bool) : ∀ (t : Tm) (l : List (Int × Value)) (b : Int), (walkF (noteStep f) t l b).length ≤ l.length + t.count
  | .mk o h n args, l, b => by
    simp only [walkF, Tm.count]
    have h1 := walkL_length f o args 0 (noteStep f l (.mk o h n args) b) b
    have h2 := noteStep_length f l (.mk o h n args) b
    omega
theorem walkL_length (f : Tm → Int → Int × Bool) : ∀ (o : Int) (ts : List Tm) (i : Nat) (l : List (Int × Value)) (b : Int), (walkL (noteStep f) o ts i l b).length ≤ l.length + Tm.countL ts
  | o, [], i, l, b => by simp [walkL, Tm.countL]
  | o, t :: ts, i, l, b => by
    simp only [walkL, Tm.countL]
    have h1 := walkF_length f t l (b + under o i)
    have h2 := walkL_length f o ts (i + 1) (walkF (noteStep f) t l (b + under o i)) b
    omega
 end

mutual
/-- A proper term has few nodes, and is not nested deep. -/
theorem properF_count : ∀ (t : Tm) (d k : Int), (properF t d k).1 = true → (properF t d k).2 = k + t.count ∧ d + t.height ≤ 41
  | .mk o h n args, d, k, hp => by
    rw [properF_eq] at hp ⊢
    split at hp
    · cases hp
    · split at hp
      · rename_i h1 h2
        have h3 := properL_count args (d + 1) (k + 1) hp
        rw [if_neg h1, if_pos h2]
        simp only [Tm.args, Tm.count, Tm.height] at h3 ⊢
        refine ⟨by omega, ?_⟩
        have := h3.2
        rcases this with h4 | h4
        · omega
        · subst h4; simp only [Tm.heightL]; omega
      · cases hp
theorem properL_count : ∀ (ts : List Tm) (d k : Int), (properL ts d k).1 = true → (properL ts d k).2 = k + Tm.countL ts ∧ (d + Tm.heightL ts ≤ 41 ∨ ts = [])
  | [], d, k, _ => by simp [properL, Tm.countL]
  | t :: ts, d, k, hp => by
    simp only [properL] at hp ⊢
    cases hq : properF t d k with
    | mk b k' =>
      rw [hq] at hp
      cases b with
      | false => cases hp
      | true =>
        simp only at hp ⊢
        have h1 := properF_count t d k (by rw [hq])
        rw [hq] at h1
        have h2 := properL_count ts d k' hp
        simp only [Tm.countL, Tm.heightL] at h1 h2 ⊢
        refine ⟨by omega, .inl ?_⟩
        rcases h2.2 with h3 | h3
        · omega
        · subst h3; simp only [Tm.heightL]; omega
 end

theorem isProper_count {t : Tm} (h : isProper t = true) : t.count ≤ 600 ∧ t.height ≤ 40 := by
  have h1 := properF_count t 1 0 h
  have h2 := properF_le t 1 0 (by omega) (by omega)
  have h3 := h2.2.2 h
  omega

/-- A slice of ints, as data. -/
abbrev intsD (l : List Int) : D := .sl 1 (l.map (D.int .i64))

abbrev fS (g : Nat) : SV := .fn (.func g) [] []

theorem numbers_spec (g : Nat) (f : Tm → Int → Int × Bool) (hf : AsksOK (fS g) f) (t : Tm) (a : Option Addr) (c : Nat) :
    Pure Try.prog (fnS 53) [tmS t a c, fS g] [tmR t a c] (fun r out => (isProper t = false ∧ r = .tup [nilS, iS 2] ∧ out = []) ∨
      (isProper t = true ∧ ∃ v, r = .tup [.v v, iS 0] ∧ out = [(v, intsD (numsOf f t))])) := by
  refine spec_of_body (N := 20) (m := 0) (dt := fun _ => none) [] ttOK Try.func53 rfl Try.call53 Try.ntmps53 rfl rfl rfl mixed (by kernel_rfl) ?_
  refine (check_spec t a c).at (by simp) rfl rfl ?_
  rintro r out ⟨rfl, rfl⟩
  refine AtIf.mk (fun h => ?_) (fun h => ?_)
  · cases hp : isProper t with
    | true => rw [hp] at h; cases h
    | false => exact AtRet.pure [] rfl (by simp) (.inl ⟨rfl, by simp, rfl⟩)
  cases hp : isProper t with
  | false => rw [hp] at h; cases h
  | true =>
  obtain ⟨hc1, hc2⟩ := isProper_count hp
  refine at_makeMap .i64 ?_
  have hv := each_spec3 (.fn (.func 65) [] [.loc 0 0, .loc 2 0]) rfl (fun _ : List (Int × Value) => .cells 87 [fS g]) (fun l => .obj (mapO .i64 l)) (fun _ => .cells 95 [.mp 1]) (fun _ => True) (noteStep f)
    (fun _ _ => ⟨rfl, rfl, rfl⟩) (fun _ => ⟨rfl, rfl, rfl⟩) (fun _ => ⟨rfl, rfl, rfl⟩) rfl
    (fun l t b a c _ hb hb1 => (numbers1_spec (fS g) rfl f hf t a c b hb hb1 l).mono (by rintro o S' ⟨rfl, rfl⟩; exact ⟨rfl, trivial, rfl⟩)) t [] 0 a c trivial (by omega) (by omega)
  refine hv.frame [1, 2, 3] rfl rfl (by decide) rfl ?_ (by simp) rfl rfl ?_
  · intro p q hp
    match p, hp with
    | 0, hp => simp at hp; subst hp; exact ⟨1, rfl, rfl, rfl⟩
    | 1, hp => simp at hp; subst hp; exact ⟨2, rfl, rfl, rfl⟩
    | 2, hp => simp at hp; subst hp; exact ⟨3, rfl, rfl, rfl⟩
  rintro o s' ⟨rfl, _, rfl⟩
  have hl := walkF_length f t [] 0
  generalize hl' : walkF (noteStep f) t [] 0 = l at hl ⊢
  refine ⟨rfl, rfl, [.cells 87 [fS g], .obj (mapO .i64 l), .cells 95 [.mp 2]], rfl, ?_⟩
  refine (keys_spec l).frameG [2] (rest := []) rfl rfl (List.Perm.refl _) (by decide) rfl ?_ (by simp) rfl rfl ?_
  · intro p q hp
    match p, hp with
    | 0, hp => simp at hp; subst hp; exact ⟨2, rfl, rfl, rfl⟩
  rintro o s' ⟨rfl, rfl⟩ _ _
  refine ⟨[.obj (mapO .i64 l)], [.cells 95 [.mp 0]], rfl, rfl, ?_⟩
  refine (sorted_spec l (by simp at hl; omega)).frameG [2, 4] (rest := []) rfl rfl (List.Perm.refl _) (by decide) rfl ?_ (by simp) rfl rfl ?_
  · intro p q hp
    match p, hp with
    | 0, hp => simp at hp; subst hp; exact ⟨2, rfl, rfl, rfl⟩
    | 1, hp => simp at hp; subst hp; exact ⟨4, rfl, rfl, rfl⟩
  rintro o s' ⟨v, rfl, rfl⟩ _ _
  refine ⟨_, [], (List.append_nil _).symm, rfl, ?_⟩
  refine AtRet.grown [(v, intsD (numsOf f t))] rfl (fun p hp => .inr ?_) (.inr ⟨rfl, v, rfl, rfl⟩)
  simp only [List.mem_singleton] at hp
  subst hp
  refine ⟨_, List.mem_append.2 (.inl (List.mem_singleton.2 rfl)), ?_⟩
  simp only [numsOf, hl']

theorem free_spec (t : Tm) (a : Option Addr) (c : Nat) :
    Pure Try.prog (fnS 41) [tmS t a c] [tmR t a c] (fun r out => (isProper t = false ∧ r = .tup [nilS, iS 2] ∧ out = []) ∨
      (isProper t = true ∧ ∃ v, r = .tup [.v v, iS 0] ∧ out = [(v, intsD (numsOf freeOf t))])) := by
  refine spec_of_body (N := 8) (m := 0) (dt := fun _ => none) [] ttOK Try.func41 rfl Try.call41 Try.ntmps41 rfl rfl rfl mixed (by kernel_rfl) ?_
  refine (numbers_spec 54 freeOf free1_spec t a c).at (by simp) rfl rfl ?_
  rintro r out (⟨hp, rfl, rfl⟩ | ⟨hp, v, rfl, rfl⟩)
  · exact AtRet.pure [] rfl (by simp) (.inl ⟨hp, rfl, rfl⟩)
  · exact AtRet.pure [(v, intsD (numsOf freeOf t))] rfl (by simp) (.inr ⟨hp, v, rfl, rfl⟩)
end Go.Proofs.Ytjjgfenincdgpaa
