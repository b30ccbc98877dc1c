/- Merged texts: Gx Hand Lexis Strs Raws RawsB Parts PartsB Items G1 Rd1 Gs. Helpers for the texts that gen.py prints: parts of states by their numbers, rules at calls, appends and returns; functions with fuel. Conditions stand in each rule. Contracts proved by hand, in the form that gen.py prints. Conditions stand in each. The contracts of lexis.IsSmall, lexis.IsCapital and trussref01.IsSmall, IsName. No condition. The contracts of slices.Index and slices.Contains at strings, and of trussref02.sign. Condition: the slices read as lists of strings. Raw expressions as plain data; the contracts of syntax.Check and trussref02.Well: both answer whether one is well formed. Condition: the argument reads as a raw expression. The contracts of trussref02's nodes, formed and Well: it answers what syntax.Check does. Condition: the argument reads as a raw expression. Parts of directives as plain data; the contract of syntax.whole. Condition: the argument reads as a part. The contracts of trussref02.many, trussref02.part: what a part is built as. Condition: the argument reads as a part. The contracts of syntax.CheckItem and trussref02.WellItem: both answer whether an item is well formed. Condition: the argument reads as an item. Functions of the references, with fuel, and their contracts. Conditions stand in each. How arguments of struct types read (written by gen_read.py). Condition: each slice that is met weighs no more than the form's own reach. Slices that are made with zeros, elements of one cell. Conditions stand in the rule. -/
import Derived.Test.YtogicnodmgdnbaaGreatQE
import Derived.Laws.MakeOwn
/-! Gx -/
section
namespace Go.Tr
open Go
set_option linter.unusedSimpArgs false

theorem bind_some {α β : Type} {x : Option α} {f : α → Option β} {r : β} (h : x.bind f = some r) : ∃ y, x = some y ∧ f y = some r := by
  cases x with
  | none => cases h
  | some y => exact ⟨y, rfl, h⟩
theorem cond_t {α : Type} {b : Bool} {A B : Option α} {r : α} (hb : b = true) (h : cond b A B = some r) : A = some r := by subst hb; exact h
theorem cond_f {α : Type} {b : Bool} {A B : Option α} {r : α} (hb : b = false) (h : cond b A B = some r) : B = some r := by subst hb; exact h
theorem cond_need {α : Type} {b : Bool} {A : Option α} {r : α} (h : cond b A none = some r) : b = true ∧ A = some r := by
  cases b with
  | true => exact ⟨rfl, h⟩
  | false => cases h
theorem ff {A : Prop} (h : false = true) : A := by cases h
theorem tf {A : Prop} (h : true = false) : A := by cases h

/-- l[i], if there is one. -/
def idx {α : Type} (l : List α) (i : Int) : Option α := cond (decide (0 ≤ i)) l[i.toNat]? none
theorem idx_some {α : Type} {l : List α} {i : Int} {x : α} (h : idx l i = some x) : 0 ≤ i ∧ l[i.toNat]? = some x := by
  obtain ⟨h1, h2⟩ := cond_need h
  exact ⟨of_decide_eq_true h1, h2⟩
theorem idx_nat {α : Type} (l : List α) (i : Nat) : idx l (i : Int) = l[i]? := by simp [idx]

def pickR {α : Type} (l : List α) : List Nat → Option (List α)
  | [] => some []
  | j :: js => match nth l j, pickR l js with
    | some x, some r => some (x :: r)
    | _, _ => none

theorem pickR_mem {α : Type} {l : List α} : ∀ {js : List Nat} {r : List α}, pickR l js = some r → ∀ p ∈ r, p ∈ l
  | [], r, h, p, hp => by cases h; cases hp
  | j :: js, r, h, p, hp => by
    simp only [pickR] at h
    split at h
    · rename_i x r' h1 h2
      cases h
      rcases List.mem_cons.1 hp with e | e
      · subst e; exact List.mem_of_getElem? (by rw [← nth_eq]; exact h1)
      · exact pickR_mem h2 p e
    · cases h

theorem pickR_get {α : Type} {l : List α} : ∀ {js : List Nat} {r : List α}, pickR l js = some r → js.length = r.length ∧ ∀ (p : Nat) (x : α), r[p]? = some x → ∃ i, js[p]? = some i ∧ l[i]? = some x
  | [], r, h => by cases h; exact ⟨rfl, fun p x hp => by simp at hp⟩
  | j :: js, r, h => by
    simp only [pickR] at h
    split at h
    · rename_i x r' h1 h2
      cases h
      obtain ⟨h3, h4⟩ := pickR_get h2
      refine ⟨by simp [h3], fun p y hp => ?_⟩
      cases p with
      | zero => simp at hp; subst hp; exact ⟨j, rfl, by rw [← nth_eq]; exact h1⟩
      | succ p => exact h4 p y (by simpa using hp)
    · cases h

theorem Pure.atR {P : Program} {cl : Cal} {args : List SV} {rs : List (Value × D)} {R : SV → List (Value × D) → Prop} {S : St} {K : Out → St → Prop} (h : Pure P cl args rs R) (js : List Nat) (hrs : pickR S.reps js = some rs) (hargs : SV.wfL 0 args = true) (hcl : cl.wf 0 = true)
    (k : ∀ r out, R r out → addReps S out (fun S' => K (.ret r) S')) : Meets P cl args S K := h.at (pickR_mem hrs) hargs hcl k

def noDup : List Nat → Bool
  | [] => true
  | j :: js => !js.contains j && noDup js
theorem noDup_spec : ∀ {l : List Nat}, noDup l = true → l.Nodup
  | [], _ => .nil
  | j :: js, h => by
    simp only [noDup, Bool.and_eq_true, Bool.not_eq_true', List.contains_eq_mem, decide_eq_false_iff_not] at h
    exact List.nodup_cons.2 ⟨h.1, noDup_spec h.2⟩

/-- At a call that is handed own blocks, by their numbers, and hands them back, and data. -/
theorem Meets.frameR {P : Program} {cl : Cal} {args : List SV} {own : List Blk} {rs : List (Value × D)} {R : Out → St → Prop} {S : St} {K : Out → St → Prop} {cl' : Cal} {args' : List SV} (h : Meets P cl args ⟨own, [], rs⟩ R) (ix js : List Nat)
    (hcl' : cl' = cl.ren (rix ix)) (hargs' : args' = SV.renL (rix ix) args)
    (hn : noDup ix = true) (hown : pickR S.own ix = some (own.map (Blk.ren (rix ix)))) (hw : wfB ix.length own = true)
    (hrs : pickR S.reps js = some rs) (hargs : SV.wfL ix.length args = true) (hcl : cl.wf ix.length = true)
    (k : ∀ o s', R o s' → s'.accs = [] ∧ s'.own.map Blk.mut = own.map Blk.mut ∧ ∃ ks, s'.own.map (Blk.ren (rix ix)) = ks ∧ forceL (setAll S.own ix ks) (fun own => putOwn S own (fun S1 => addReps S1 s'.reps (fun S' => K (o.ren (rix ix)) S')))) : Meets P cl' args' S K := by
  obtain ⟨h1, h2⟩ := pickR_get hown
  refine Meets.frame h ix hcl' hargs' (noDup_spec hn) (by simpa using h1.symm) ?_ (pickR_mem hrs) hargs hcl k
  intro p q hp
  obtain ⟨i, h3, h4⟩ := h2 p (q.ren (rix ix)) (by rw [List.getElem?_map, hp]; rfl)
  exact ⟨i, h3, h4, wfB_spec hw q (List.mem_of_getElem? hp)⟩

/-- Which slices may grow from here on: old ones, or nil ones. -/
inductive ASel where
  | old (j : Nat)
  | nil (k : Nat) (T : TypeId)

/-- Which data are known from here on: old ones; slices that grew; nil slices. -/
inductive RSel where
  | old (j : Nat)
  | froz (j : Nat)
  | nil (k : Nat)

def selAccs (S : St) : List ASel → Option (List Acc)
  | [] => some []
  | .old j :: r => match nth S.accs j, selAccs S r with
    | some a, some l => some (a :: l)
    | _, _ => none
  | .nil k T :: r => match selAccs S r with
    | some l => some (⟨.slice none 0 0, k, T, []⟩ :: l)
    | none => none

def selReps (S : St) : List RSel → Option (List (Value × D))
  | [] => some []
  | .old j :: r => match nth S.reps j, selReps S r with
    | some a, some l => some (a :: l)
    | _, _ => none
  | .froz j :: r => match nth S.accs j, selReps S r with
    | some a, some l => some ((a.v, .sl a.k a.ds) :: l)
    | _, _ => none
  | .nil k :: r => match selReps S r with
    | some l => some ((.slice none 0 0, .sl k []) :: l)
    | none => none

def oldsA : List ASel → List Nat
  | [] => []
  | .old j :: r => j :: oldsA r
  | .nil _ _ :: r => oldsA r
def frozR : List RSel → List Nat
  | [] => []
  | .froz j :: r => j :: frozR r
  | _ :: r => frozR r
def apartN (l : List Nat) : List Nat → Bool
  | [] => true
  | j :: r => !l.contains j && apartN l r

theorem selAccs_mem {S : St} : ∀ {ag : List ASel} {l : List Acc}, selAccs S ag = some l → ∀ a ∈ l, (∃ j ∈ oldsA ag, S.accs[j]? = some a) ∨ (∃ k T, a = ⟨.slice none 0 0, k, T, []⟩)
  | [], l, h, a, ha => by cases h; cases ha
  | .old j :: r, l, h, a, ha => by
    simp only [selAccs] at h
    split at h
    · rename_i x l' h1 h2
      cases h
      rcases List.mem_cons.1 ha with e | e
      · subst e; exact .inl ⟨j, by simp [oldsA], by rw [← nth_eq]; exact h1⟩
      · rcases selAccs_mem h2 a e with ⟨i, hi, hi'⟩ | h3
        · exact .inl ⟨i, by simp [oldsA, hi], hi'⟩
        · exact .inr h3
    · cases h
  | .nil k T :: r, l, h, a, ha => by
    simp only [selAccs] at h
    split at h
    · rename_i l' h2
      cases h
      rcases List.mem_cons.1 ha with e | e
      · exact .inr ⟨k, T, e⟩
      · rcases selAccs_mem h2 a e with ⟨i, hi, hi'⟩ | h3
        · exact .inl ⟨i, by simpa [oldsA] using hi, hi'⟩
        · exact .inr h3
    · cases h

theorem selReps_mem {S : St} : ∀ {rs : List RSel} {l : List (Value × D)}, selReps S rs = some l → ∀ p ∈ l, p ∈ S.reps ∨ (∃ j a, j ∈ frozR rs ∧ S.accs[j]? = some a ∧ p = (a.v, .sl a.k a.ds)) ∨ (∃ k, p = (.slice none 0 0, .sl k []))
  | [], l, h, a, ha => by cases h; cases ha
  | .old j :: r, l, h, a, ha => by
    simp only [selReps] at h
    split at h
    · rename_i x l' h1 h2
      cases h
      rcases List.mem_cons.1 ha with e | e
      · subst e; exact .inl (List.mem_of_getElem? (by rw [← nth_eq]; exact h1))
      · exact selReps_mem h2 a e
    · cases h
  | .froz j :: r, l, h, a, ha => by
    simp only [selReps] at h
    split at h
    · rename_i x l' h1 h2
      cases h
      rcases List.mem_cons.1 ha with e | e
      · exact .inr (.inl ⟨j, x, by simp [frozR], by rw [← nth_eq]; exact h1, e⟩)
      · rcases selReps_mem h2 a e with h3 | ⟨i, y, h4, h5⟩ | h3
        · exact .inl h3
        · exact .inr (.inl ⟨i, y, by simp [frozR, h4], h5⟩)
        · exact .inr (.inr h3)
    · cases h
  | .nil k :: r, l, h, a, ha => by
    simp only [selReps] at h
    split at h
    · rename_i l' h2
      cases h
      rcases List.mem_cons.1 ha with e | e
      · exact .inr (.inr ⟨k, e⟩)
      · exact selReps_mem h2 a e
    · cases h

theorem flatMap_apart {α : Type} {f : α → List Nat} : ∀ {l : List α}, (l.flatMap f).Nodup → ∀ {i j : Nat} {x y : α} {b : Nat}, l[i]? = some x → l[j]? = some y → i ≠ j → b ∈ f x → b ∈ f y → False
  | [], _, i, j, x, y, b, h, _, _, _, _ => by simp at h
  | a :: l, hn, i, j, x, y, b, hi, hj, hij, hx, hy => by
    rw [List.flatMap_cons, List.nodup_append] at hn
    cases i with
    | zero =>
      simp at hi; subst hi
      cases j with
      | zero => exact hij rfl
      | succ j => exact hn.2.2 b hx b (List.mem_flatMap.2 ⟨y, List.mem_of_getElem? (by simpa using hj), hy⟩) rfl
    | succ i =>
      cases j with
      | zero =>
        simp at hj; subst hj
        exact hn.2.2 b hy b (List.mem_flatMap.2 ⟨x, List.mem_of_getElem? (by simpa using hi), hx⟩) rfl
      | succ j => exact flatMap_apart hn.2.1 (by simpa using hi) (by simpa using hj) (by omega) hx hy

theorem selAccs_mem2 {S : St} (f : Acc → List Nat) (hf : ∀ k T, f ⟨.slice none 0 0, k, T, []⟩ = []) {ag : List ASel} {l : List Acc} (h : selAccs S ag = some l) : ∀ b, b ∈ l.flatMap f → b ∈ S.accs.flatMap f := by
  intro b hb
  obtain ⟨a, ha, hba⟩ := List.mem_flatMap.1 hb
  rcases selAccs_mem h a ha with ⟨j, _, hj⟩ | ⟨k, T, rfl⟩
  · exact List.mem_flatMap.2 ⟨a, List.mem_of_getElem? hj, hba⟩
  · rw [hf] at hba; cases hba

theorem selAccs_nodup {S : St} (f : Acc → List Nat) (hf : ∀ k T, f ⟨.slice none 0 0, k, T, []⟩ = []) (hn : (S.accs.flatMap f).Nodup) : ∀ {ag : List ASel} {l : List Acc}, selAccs S ag = some l → (oldsA ag).Nodup → (l.flatMap f).Nodup
  | [], l, h, _ => by cases h; simp
  | .old j :: r, l, h, hh => by
    simp only [selAccs] at h
    split at h
    · rename_i x l' h1 h2
      cases h
      simp only [oldsA] at hh
      obtain ⟨hj, hr⟩ := List.nodup_cons.1 hh
      have hx : S.accs[j]? = some x := by rw [← nth_eq]; exact h1
      rw [List.flatMap_cons, List.nodup_append]
      refine ⟨?_, selAccs_nodup f hf hn h2 hr, fun b hb b' hb' e => ?_⟩
      · have hm := List.mem_of_getElem? hx
        obtain ⟨s, t, hst⟩ := List.append_of_mem hm
        rw [hst, List.flatMap_append, List.flatMap_cons, List.nodup_append, List.nodup_append] at hn
        exact hn.2.1.1
      · subst e
        obtain ⟨a, ha, hba⟩ := List.mem_flatMap.1 hb'
        rcases selAccs_mem h2 a ha with ⟨i, hi, hia⟩ | ⟨k, T, rfl⟩
        · refine flatMap_apart hn hx hia ?_ hb hba
          rintro rfl
          exact hj hi
        · rw [hf] at hba; cases hba
    · cases h
  | .nil k T :: r, l, h, hh => by
    simp only [selAccs] at h
    split at h
    · rename_i l' h2
      cases h
      rw [List.flatMap_cons, hf, List.nil_append]
      exact selAccs_nodup f hf hn h2 hh
    · cases h

theorem apartN_spec {l : List Nat} : ∀ {r : List Nat}, apartN l r = true → ∀ j ∈ r, j ∉ l
  | [], _, j, hj => by cases hj
  | i :: r, h, j, hj => by
    simp only [apartN, Bool.and_eq_true, Bool.not_eq_true', List.contains_eq_mem, decide_eq_false_iff_not] at h
    rcases List.mem_cons.1 hj with e | e
    · subst e; exact h.1
    · exact apartN_spec h.2 j e

/-- A part of the state, by numbers; slices that grew may be data from here on; nil slices may grow, or are data. -/
theorem StLe.gen {S : St} (n : Nat) (ag : List ASel) (rs : List RSel) {own : List Blk} {accs : List Acc} {reps : List (Value × D)} (ho : S.own.take n = own) (ha : selAccs S ag = some accs) (hr : selReps S rs = some reps)
    (hn : Nat.ble n S.own.length = true) (hw : wfB n own = true) (hd : noDup (oldsA ag) = true) (hf : apartN (oldsA ag) (frozR rs) = true) : StLe S ⟨own, accs, reps⟩ := by
  subst ho
  have hn := Nat.le_of_ble_eq_true hn
  have hlen : (S.own.take n).length = n := by rw [List.length_take]; omega
  have hmemA : ∀ b, b ∈ accs.flatMap (fun a => accBlk a.v) → b ∈ S.accs.flatMap (fun a => accBlk a.v) := fun b hb => selAccs_mem2 (fun a => accBlk a.v) (fun _ _ => rfl) ha b hb
  refine ⟨by simp only [hlen]; exact hn, fun J ℓ w h => ?_⟩
  simp only [hlen]
  have hmem : ∀ b ∈ mutS (ℓ.take n) ⟨S.own.take n, accs, reps⟩, b ∈ mutS ℓ S := fun b hb => by
    simp only [mutS] at hb ⊢
    rcases List.mem_append.1 hb with h1 | h1
    · exact List.mem_append.2 (.inl ((mutL_take n).subset h1))
    · exact List.mem_append.2 (.inr (hmemA b h1))
  have hx : ∀ x, x < w.heap.size → Jx J (mutS ℓ S) x → Jx J (mutS (ℓ.take n) ⟨S.own.take n, accs, reps⟩) x ∧ w.heap[x]? = w.heap[x]? := fun x _ hj => ⟨⟨hj.1, fun hx => hj.2 (hmem x hx)⟩, rfl⟩
  obtain ⟨_, h2⟩ := StLe.part S n hn (wfB_spec hw) [] (List.nil_sublist _) [] (by simp)
  obtain ⟨hg, _⟩ := h2 J ℓ w h
  simp only [hlen] at hg
  have hnd := h.nodup
  simp only [mutS] at hnd
  rw [List.nodup_append] at hnd
  have hnodup : (mutS (ℓ.take n) ⟨S.own.take n, accs, reps⟩).Nodup := by
    simp only [mutS]
    rw [List.nodup_append]
    exact ⟨(mutL_take n).nodup hnd.1, selAccs_nodup (fun a => accBlk a.v) (fun _ _ => rfl) hnd.2.1 ha (noDup_spec hd), fun x hx y hy => hnd.2.2 x ((mutL_take n).subset hx) y (hmemA y hy)⟩
  refine ⟨⟨hg.len, hnodup, fun b hb => h.lt b (hmem b hb), fun b hb => h.memJ b (hmem b hb), hg.wf, ?_, ?_, ?_⟩, hmem⟩
  · intro i b k hi hk
    simp only at hk
    have hin : i < n := by
      rcases Nat.lt_or_ge i n with h1 | h1
      · exact h1
      · rw [List.getElem?_eq_none (by rw [hlen]; exact h1)] at hk; cases hk
    rw [List.getElem?_take, if_pos hin] at hi hk
    refine (h.own i b k hi hk).keep (wfB_spec hw k (List.mem_of_getElem? (by rw [List.getElem?_take, if_pos hin]; exact hk))) (fun j hj => ?_) (fun x hx' hj => (hx x hx' hj).1) (fun _ => rfl)
    simp [List.getD, hj]
  · intro a haa
    rcases selAccs_mem ha a haa with ⟨j, _, hj⟩ | ⟨k, T, rfl⟩
    · exact (h.accs a (List.mem_of_getElem? hj)).keep hx (fun _ _ _ => rfl)
    · exact .inl ⟨rfl, rfl⟩
  · intro p hp
    rcases selReps_mem hr p hp with h1 | ⟨j, a, hj, haj, rfl⟩ | ⟨k, rfl⟩
    · exact (h.reps p h1).map hx
    · have hok := h.accs a (List.mem_of_getElem? haj)
      simp only [Rep, RepC]
      rcases hok with ⟨hv, hd⟩ | ⟨b, cp, cc, hv, hgb, hcs, hl, hre⟩
      · rw [hv, hd]
        exact ⟨none, 0, rfl, ⟨Nat.le_refl _, Nat.zero_le _⟩, .inl rfl⟩
      · rw [hv]
        have hba : b ∈ accBlk a.v := by simp [hv, accBlk]
        have hbm : b ∈ S.accs.flatMap (fun a => accBlk a.v) := List.mem_flatMap.2 ⟨a, List.mem_of_getElem? haj, hba⟩
        refine ⟨_, cp, rfl, hl, .inr ⟨b, 0, cc, a.T, (0, 0), rfl, ⟨h.memJ b (by simp only [mutS]; exact List.mem_append.2 (.inr hbm)), fun hmm => ?_⟩, hgb, ?_⟩⟩
        · simp only [mutS] at hmm
          rcases List.mem_append.1 hmm with hm1 | hm1
          · exact hnd.2.2 b ((mutL_take n).subset hm1) b hbm rfl
          · obtain ⟨a', ha', hb'⟩ := List.mem_flatMap.1 hm1
            rcases selAccs_mem ha a' ha' with ⟨i, hi, hia⟩ | ⟨k, T, rfl⟩
            · refine flatMap_apart (f := fun (x : Acc) => accBlk x.v) hnd.2.1 hia haj ?_ hb' hba
              rintro rfl
              exact apartN_spec hf i hj hi
            · simp [accBlk] at hb'
        · simpa using RepE.map hx a.k _ _ hre
    · exact ⟨none, 0, rfl, ⟨Nat.zero_le _, Nat.zero_le _⟩, .inl rfl⟩

theorem AtRet.gen {m : Nat} {o : Out} {S : St} {R : Out → St → Prop} (S' : St) (h : StLe S S') (hm : Nat.ble m S'.own.length = true) (ho : o.wf S'.own.length = true) (hR : R o S') : AtRet m o S R :=
  ⟨⟨S', h, Nat.le_of_ble_eq_true hm, ho, hR⟩⟩

/-- The end of a pure function. -/
theorem AtRet.pureG {r : SV} {S : St} {R : SV → List (Value × D) → Prop} (rs : List RSel) (out : List (Value × D)) (hout : selReps S rs = some out) (hr : r.wf 0 = true) (h : R r out) : AtRet 0 (.ret r) S (fun o S' => ∃ r out, o = .ret r ∧ S' = ⟨[], [], out⟩ ∧ r.wf 0 = true ∧ R r out) :=
  ⟨⟨[], [], out⟩, StLe.gen 0 [] rs rfl rfl hout (by simp) rfl rfl (by simp only [oldsA]; induction (frozR rs) with | nil => rfl | cons a l ih => simpa [apartN] using ih), Nat.zero_le _, hr, r, out, rfl, rfl, hr, h⟩

/-- Less may be known ahead of a call. -/
theorem Meets.le {P : Program} {cl : Cal} {args : List SV} {S S' : St} {R : Out → St → Prop} (h : StLe S S') (hl : Nat.beq S'.own.length S.own.length = true) (k : Meets P cl args S' R) : Meets P cl args S R := by
  intro J ℓ w hG hJ
  have hl := Nat.eq_of_beq_eq_true hl
  obtain ⟨h1, h2⟩ := h.2 J ℓ w hG
  rw [hl, ← hG.len, List.take_length] at h1 h2
  obtain ⟨nx, e1, e2⟩ := k J ℓ w h1 hJ
  refine ⟨nx, e1, e2.mono ?_⟩
  rintro e w' ⟨ℓ', o, S'', a1, a2, a3, a4, a5, a6, a7⟩
  exact ⟨ℓ', o, S'', a1, a2, a3, a4.mono (fun x hx _ => h2 x hx), a5, fun b hb => (a6 b hb).imp (h2 b) id, a7⟩

theorem AtSem.le {P : Program} {m : List Base → Sem Value} {S S' : St} {K : SV → St → Prop} (h : StLe S S') (hl : Nat.beq S'.own.length S.own.length = true) (k : AtSem P m S' K) : AtSem P m S K := by
  constructor
  intro J ℓ w hG hJ
  have hl := Nat.eq_of_beq_eq_true hl
  obtain ⟨h1, h2⟩ := h.2 J ℓ w hG
  rw [hl, ← hG.len, List.take_length] at h1 h2
  obtain ⟨r, ℓ', S'', w', a1, a2, a3, a4, a5, a6, a7⟩ := k.sem J ℓ w h1 hJ
  exact ⟨r, ℓ', S'', w', a1, a2, a3, a4.mono (fun x hx _ => h2 x hx), a5, fun b hb => (a6 b hb).imp (h2 b) id, a7⟩

/-- append(s, x...) of a slice that may grow; what it reads as then. -/
theorem at_appendG {P : Program} {tt : Tab} (hT : TTOK P tt) {t e ty : TypeId} {k : Nat} {x y : SV} {S : St} {K : SV → St → Prop} {v : Value} {a : Option Addr} {m c : Nat} {ds es ds' : List D} (bytes j i : Nat) (ht : tt t = some (.slice e k)) (hel : elemB P e k bytes = true)
    (hx : x = .v v) (hacc : nth S.accs j = some ⟨v, k, e, ds⟩) (hy : y = .v (.slice a m c)) (hr : nth S.reps i = some (.slice a m c, .sl k es)) (hds : ds' = ds ++ es) (hc : decide (ds'.length ≤ 1000000) = true) (hb : Nat.ble bytes 100000 = true)
    (h : ∀ a' c', forceL (setNth S.accs j ⟨.slice a' ds'.length c', k, e, ds'⟩) (fun accs => K (.v (.slice a' ds'.length c')) ⟨S.own, accs, S.reps⟩)) : AtSem P (fun ℓ => Builtin.append_ #[t, t] ty (SV.denL ℓ [x, y]).toArray) S K := by
  subst hds
  have hc := of_decide_eq_true hc
  have hb := Nat.le_of_ble_eq_true hb
  simp only [List.length_append] at h hc
  have : (ds.length + es.length) * bytes ≤ 1000000 * 100000 := Nat.mul_le_mul hc hb
  exact at_append hT bytes j i ht hel hx hacc hy hr (by omega) (by omega) h

theorem map_get {α : Type} (f : α → D) {l : List α} {i : Nat} {x : α} (h : l[i]? = some x) : (l.map f)[i]? = some (f x) := by simp [h]

/-- f yields r, given fuel enough. -/
def Ev {α : Type} (f : Nat → Option α) (r : α) : Prop := ∃ N, ∀ n, N ≤ n → f n = some r

theorem Ev.pure {α : Type} (r : α) : Ev (fun _ => some r) r := ⟨0, fun _ _ => rfl⟩
theorem Ev.const {α : Type} {f : Nat → Option α} {r : α} (h : ∀ n, f n = some r) : Ev f r := ⟨0, fun n _ => h n⟩
theorem Ev.succ {α : Type} {f g : Nat → Option α} {r : α} (hf : ∀ n, f (n + 1) = g n) (h : Ev g r) : Ev f r := by
  obtain ⟨N, h⟩ := h
  refine ⟨N + 1, fun n hn => ?_⟩
  obtain ⟨m, rfl⟩ : ∃ m, n = m + 1 := ⟨n - 1, by omega⟩
  rw [hf]; exact h m (by omega)
theorem Ev.bind {α β : Type} {f : Nat → Option α} {g : Nat → α → Option β} {x : α} {r : β} (h : Ev f x) (k : Ev (fun n => g n x) r) : Ev (fun n => (f n).bind (g n)) r := by
  obtain ⟨N, h⟩ := h
  obtain ⟨M, k⟩ := k
  refine ⟨max N M, fun n hn => ?_⟩
  show (f n).bind (g n) = some r
  rw [h n (by omega)]
  exact k n (by omega)
theorem Ev.t {α : Type} {b : Bool} {f g : Nat → Option α} {r : α} (hb : b = true) (h : Ev f r) : Ev (fun n => cond b (f n) (g n)) r := by subst hb; exact h
theorem Ev.f {α : Type} {b : Bool} {f g : Nat → Option α} {r : α} (hb : b = false) (h : Ev g r) : Ev (fun n => cond b (f n) (g n)) r := by subst hb; exact h
theorem Ev.eq {α : Type} {f : Nat → Option α} {r r' : α} (h : Ev f r) (e : r = r') : Ev f r' := e ▸ h
theorem Ev.ite {α : Type} {b : Bool} {f g : Nat → Option α} {r : α} (h : b = true → Ev f r) (k : b = false → Ev g r) : Ev (fun n => cond b (f n) (g n)) r := by
  cases b with
  | true => exact h rfl
  | false => exact k rfl

theorem no_some {α : Type} {r : α} {A : Prop} (h : (none : Option α) = some r) : A := by cases h
theorem nth_mem {α : Type} {l : List α} {j : Nat} {x : α} (h : nth l j = some x) : x ∈ l := List.mem_of_getElem? (by rw [← nth_eq]; exact h)
theorem OwnKeptBut.append {W : List Nat} {S : St} {l : List Blk} {accs : List Acc} {reps : List (Value × D)} : OwnKeptBut W S ⟨S.own ++ l, accs, reps⟩ := (OwnKept.append S l accs reps).but W

/-- A slice literal; what it reads as. -/
theorem at_buildG {P : Program} {tt : Tab} (hT : TTOK P tt) {t e : TypeId} {k n : Nat} {l : List (Nat × SV)} {S : St} {K : SV → St → Prop} (bytes : Nat) (ds : List D) {ds' : List D} (ht : tt t = some (.slice e k)) (hel : elemB P e k bytes = true) (hl : partsOK S.reps k 0 l ds) (hn : ds'.length = n) (hds : ds' = ds) (hlim : n * k ≤ 16777216) (hpos : n ≤ 16777216)
    (h : ∀ a, addReps S [(.slice a ds'.length n, .sl k ds')] (fun S' => K (.v (.slice a ds'.length n)) S')) : AtSem P (fun ℓ => Instr.buildSlice t n (denParts ℓ l).toArray) S K := by
  subst hds
  rw [hn] at h
  exact at_build hT bytes _ ht hel hl hn hlim hpos h

/-- x[lo:hi]; what it reads as. -/
theorem at_sliceG {P : Program} {tt : Tab} (hT : TTOK P tt) {t e : TypeId} {k : Nat} {x : SV} {sl sh : Option SV} {S : St} {K : SV → St → Prop} {a : Option Addr} {n c : Nat} {ds ds' : List D} (j : Nat) (lo hi : Int) (hx : x = .v (.slice a n c)) (ht : tt t = some (.slice e k))
    (hr : nth S.reps j = some (.slice a n c, .sl k ds)) (hlo : (∃ q, sl = some (.v (.int q lo))) ∨ (sl = none ∧ lo = 0)) (hhi : (∃ q, sh = some (.v (.int q hi))) ∨ (sh = none ∧ hi = n)) (h0 : decide (0 ≤ lo ∧ lo ≤ hi ∧ hi ≤ n) = true) (hds : ds' = (ds.take hi.toNat).drop lo.toNat)
    (h : ∀ a' c', addReps S [(.slice a' ds'.length c', .sl k ds')] (fun S' => K (.v (.slice a' ds'.length c')) S')) : AtPure P (fun ℓ => Instr.sliceAt t (x.den ℓ) (denO ℓ sl) (denO ℓ sh) (denO ℓ none)) S K := by
  obtain ⟨h1, h2, h3⟩ := of_decide_eq_true h0
  have hb1 : bnd 0 lo.toNat sl := by
    rcases hlo with ⟨q, rfl⟩ | ⟨rfl, rfl⟩
    · simp only [bnd]; omega
    · rfl
  have hb2 : bnd n hi.toNat sh := by
    rcases hhi with ⟨q, rfl⟩ | ⟨rfl, rfl⟩
    · simp only [bnd]; omega
    · simp only [bnd]; omega
  constructor
  intro J ℓ w hG hJ
  have hrep := hG.reps _ (List.mem_of_getElem? (by rw [← nth_eq]; exact hr))
  simp only [Rep, RepC] at hrep
  obtain ⟨a', cap, heq, hle, _⟩ := hrep
  simp only [List.cons.injEq, Value.slice.injEq, and_true] at heq
  obtain ⟨_, hn, _⟩ := heq
  have hl : ds'.length = hi.toNat - lo.toNat := by subst hds; simp; omega
  refine (at_slice hT j lo.toNat hi.toNat hx ht hr hb1 hb2 (by omega) (by omega) ?_).sem J ℓ w hG hJ
  intro a' c' _
  have := h a' c'
  rw [hl, hds] at this
  exact this

theorem sl_l {α : Type} (f : α → D) (l : List α) (lo : Int) : (l.drop lo.toNat).map f = ((l.map f).take (((l.map f).length : Nat) : Int).toNat).drop lo.toNat := by
  rw [Int.toNat_natCast, List.take_length, List.map_drop]
theorem sl_h {α : Type} (f : α → D) (l : List α) (hi : Int) : (l.take hi.toNat).map f = ((l.map f).take hi.toNat).drop (0 : Int).toNat := by simp [List.map_take]
theorem wfB_of {n : Nat} : ∀ {l : List Blk}, (∀ k ∈ l, k.wf n = true) → wfB n l = true
  | [], _ => rfl
  | k :: r, h => by
    simp only [wfB]
    rw [h k (List.mem_cons_self ..)]
    exact wfB_of (fun q hq => h q (List.mem_cons_of_mem _ hq))

/-- Own blocks picked by their numbers, numbered anew. -/
theorem Good.pick {J : Nat → Prop} {ℓ : List Base} {o own : List Blk} {accs : List Acc} {rs : List (Value × D)} {w : World} (hG : Good J ℓ ⟨o, accs, rs⟩ w) (ix : List Nat) (hn : noDup ix = true) (hown : pickR o ix = some (own.map (Blk.ren (rixD ix)))) (hw : wfB ix.length own = true) :
    Good J (ix.map (fun i => ℓ.getD i default)) ⟨own, accs, rs⟩ w ∧ ∀ b ∈ mutS (ix.map (fun i => ℓ.getD i default)) ⟨own, accs, rs⟩, b ∈ mutS ℓ ⟨o, accs, rs⟩ := by
  have hn := noDup_spec hn
  obtain ⟨hlen0, hget⟩ := pickR_get hown
  have hlen : own.length = ix.length := by simpa using hlen0.symm
  have hown' : ∀ (p : Nat) (k : Blk), own[p]? = some k → ∃ i, ix[p]? = some i ∧ o[i]? = some (k.ren (rixD ix)) ∧ k.wf ix.length = true := by
    intro p k hp
    obtain ⟨i, h3, h4⟩ := hget p (k.ren (rixD ix)) (by rw [List.getElem?_map, hp]; rfl)
    exact ⟨i, h3, h4, wfB_spec hw k (List.mem_of_getElem? hp)⟩
  let ℓs : List Base := ix.map (fun i => ℓ.getD i default)
  have hixlt : ∀ (p i : Nat), ix[p]? = some i → i < o.length := by
    intro p i hp
    have hp' : p < own.length := by rw [hlen]; exact (List.getElem?_eq_some_iff.1 hp).1
    obtain ⟨i', h1, h2, _⟩ := hown' p own[p] (List.getElem?_eq_getElem hp')
    rw [hp] at h1
    cases h1
    exact (List.getElem?_eq_some_iff.1 h2).1
  have hr : ∀ i, i < ix.length → ℓ.getD (rixD ix i) default = ℓs.getD i default := by
    intro i hi
    simp [ℓs, rixD, List.getD, List.getElem?_map, List.getElem?_eq_getElem hi]
  have hℓs : ∀ (p : Nat) (b : Base), ℓs[p]? = some b → ∃ i, ix[p]? = some i ∧ ℓ[i]? = some b := by
    intro p b hp
    simp only [ℓs, List.getElem?_map, Option.map_eq_some_iff] at hp
    obtain ⟨i, hi, rfl⟩ := hp
    have hlt : i < ℓ.length := by rw [hG.len]; exact hixlt p i hi
    exact ⟨i, hi, by simp [List.getD, List.getElem?_eq_getElem hlt]⟩
  have hmem : ∀ b, b ∈ mutL ℓs own → b ∈ mutL ℓ o := by
    intro b hb
    obtain ⟨p, b', q, h1, h2, h3, h4⟩ := mem_mutL.1 hb
    obtain ⟨i, h5, h6⟩ := hℓs p b' h1
    obtain ⟨i', h7, h8, _⟩ := hown' p q h2
    rw [h5] at h7
    cases h7
    exact mem_mutL.2 ⟨i, b', _, h6, h8, by rw [Blk.ren_mut]; exact h3, h4⟩
  have hnS := hG.nodup
  simp only [mutS] at hnS
  rw [List.nodup_append] at hnS
  obtain ⟨hnA, hnC, hAC⟩ := hnS
  have hnd : (mutL ℓs own).Nodup := by
    refine mutL_nodup ?_
    intro p q b b' k1 k2 h1 h2 h3 h4 h5 h6 h7
    obtain ⟨i, e1, e2⟩ := hℓs p b h1
    obtain ⟨j, e3, e4⟩ := hℓs q b' h4
    obtain ⟨i', e5, e6, _⟩ := hown' p k1 h2
    obtain ⟨j', e7, e8, _⟩ := hown' q k2 h5
    rw [e1] at e5; cases e5
    rw [e3] at e7; cases e7
    have := mutL_uniq hnA i j b b' _ _ e2 e6 (by rw [Blk.ren_mut]; exact h3) e4 e8 (by rw [Blk.ren_mut]; exact h6) h7
    subst this
    have hp1 := (List.getElem?_eq_some_iff.1 e1)
    have hq1 := (List.getElem?_eq_some_iff.1 e3)
    exact (List.getElem_inj hn).1 (hp1.2.trans hq1.2.symm)
  have hmemS : ∀ b, b ∈ mutS ℓs ⟨own, accs, rs⟩ → b ∈ mutS ℓ ⟨o, accs, rs⟩ := fun b hb => by
    simp only [mutS] at hb ⊢
    rcases List.mem_append.1 hb with h1 | h1
    · exact List.mem_append.2 (.inl (hmem b h1))
    · exact List.mem_append.2 (.inr h1)
  have hJin : ∀ b, Jx J (mutS ℓ ⟨o, accs, rs⟩) b → Jx J (mutS ℓs ⟨own, accs, rs⟩) b := fun b ⟨h1, h2⟩ => ⟨h1, fun hb => h2 (hmemS b hb)⟩
  refine ⟨⟨by simp [hlen], ?_, fun b hb => hG.lt b (hmemS b hb), fun b hb => hG.memJ b (hmemS b hb), ?_, ?_, ?_, ?_⟩, hmemS⟩
  · simp only [mutS]
    rw [List.nodup_append]
    exact ⟨hnd, hnC, fun x hx y hy e => hAC x (hmem x hx) y hy e⟩
  · intro q hq
    obtain ⟨p, hp⟩ := List.getElem?_of_mem hq
    simp only [hlen]
    exact (hown' p q hp).choose_spec.2.2
  · intro p b q hb hq
    obtain ⟨i, e1, e2⟩ := hℓs p b hb
    obtain ⟨i', e3, e4, e5⟩ := hown' p q hq
    rw [e1] at e3; cases e3
    exact (hG.own i b _ e2 e4).unren hr e5 hJin
  · intro ac hac
    exact (hG.accs ac hac).keep (fun x _ hj => ⟨hJin x hj, rfl⟩) (fun _ _ _ => rfl)
  · intro p hp
    exact (hG.reps p hp).map (fun b _ hb => ⟨hJin b hb, rfl⟩)

/-- A part of the state, by numbers, the own blocks numbered anew. -/
theorem StLeR.gen {S : St} (ix : List Nat) (ag : List ASel) (rs : List RSel) {own : List Blk} {accs : List Acc} {reps : List (Value × D)} (hown : pickR S.own ix = some (own.map (Blk.ren (rixD ix)))) (ha : selAccs S ag = some accs) (hr : selReps S rs = some reps)
    (hn : noDup ix = true) (hw : wfB ix.length own = true) (hd : noDup (oldsA ag) = true) (hf : apartN (oldsA ag) (frozR rs) = true) : StLeR ix S ⟨own, accs, reps⟩ := by
  refine ⟨by have := (pickR_get hown).1; simpa using this, fun J ℓ w hG => ?_⟩
  have h1 : StLe S ⟨S.own, accs, reps⟩ := by
    refine ⟨Nat.le_refl _, fun J ℓ w hG => ?_⟩
    have hwS : wfB S.own.length S.own = true := wfB_of hG.wf
    have h2 := StLe.gen (S := S) S.own.length ag rs (List.take_length) ha hr (Nat.ble_self_eq_true _) hwS hd hf
    exact h2.2 J ℓ w hG
  obtain ⟨hg, hm⟩ := h1.2 J ℓ w hG
  simp only [← hG.len, List.take_length] at hg hm
  obtain ⟨hg2, hm2⟩ := hg.pick ix hn hown hw
  exact ⟨hg2, fun b hb => hm b (hm2 b hb)⟩

def splitR {α : Type} : List α → Nat → List Nat → List α × List α
  | [], _, _ => ([], [])
  | a :: l, _, [] => ([], a :: l)
  | a :: l, k, j :: js => match Nat.beq j k with
    | true => (a :: (splitR l (k + 1) js).1, (splitR l (k + 1) js).2)
    | false => ((splitR l (k + 1) (j :: js)).1, a :: (splitR l (k + 1) (j :: js)).2)

theorem splitR_perm {α : Type} : ∀ (l : List α) (k : Nat) (js : List Nat), l.Perm ((splitR l k js).1 ++ (splitR l k js).2)
  | [], _, _ => .refl _
  | a :: l, _, [] => .refl _
  | a :: l, k, j :: js => by
    simp only [splitR]
    split
    · exact (splitR_perm l (k + 1) js).cons a
    · exact ((splitR_perm l (k + 1) (j :: js)).cons a).trans List.perm_middle.symm

/-- At a call that is handed own blocks and slices that may grow, by their numbers. -/
theorem Meets.frameRA {P : Program} {cl : Cal} {args : List SV} {own : List Blk} {accs rest : List Acc} {rs : List (Value × D)} {R : Out → St → Prop} {S : St} {K : Out → St → Prop} {cl' : Cal} {args' : List SV} (h : Meets P cl args ⟨own, accs, rs⟩ R) (ix ax js : List Nat)
    (hac : splitR S.accs 0 ax = (accs, rest)) (hcl' : cl' = cl.ren (rix ix)) (hargs' : args' = SV.renL (rix ix) args)
    (hn : noDup ix = true) (hown : pickR S.own ix = some (own.map (Blk.ren (rix ix)))) (hw : wfB ix.length own = true)
    (hrs : pickR S.reps js = some rs) (hargs : SV.wfL ix.length args = true) (hcl : cl.wf ix.length = true)
    (k : ∀ o s', R o s' → s'.own.map Blk.mut = own.map Blk.mut ∧ ∃ ks, s'.own.map (Blk.ren (rix ix)) = ks ∧ forceL (setAll S.own ix ks) (fun own => forceL (s'.accs ++ rest) (fun accs => forceL (S.reps ++ s'.reps) (fun reps => K (o.ren (rix ix)) ⟨own, accs, reps⟩)))) : Meets P cl' args' S K := by
  simp only [forceL_eq] at k
  obtain ⟨h1, h2⟩ := pickR_get hown
  have hlen : own.length = ix.length := by simpa using h1.symm
  have hown' : ∀ (p : Nat) (k : Blk), own[p]? = some k → ∃ i, ix[p]? = some i ∧ S.own[i]? = some (k.ren (rix ix)) ∧ k.wf ix.length = true := by
    intro p q hp
    obtain ⟨i, h3, h4⟩ := h2 p (q.ren (rix ix)) (by rw [List.getElem?_map, hp]; rfl)
    exact ⟨i, h3, h4, wfB_spec hw q (List.mem_of_getElem? hp)⟩
  have hc := rixN_low ix S.own.length
  have hperm : S.accs.Perm (accs ++ rest) := by
    have := splitR_perm S.accs 0 ax
    rw [hac] at this
    exact this
  refine Meets.frameG (rest := rest) h ix ?_ ?_ hperm (noDup_spec hn) hlen ?_ (pickR_mem hrs) hargs hcl ?_
  · rw [hcl']
    cases cl with
    | val F => simp only [Cal.ren]; rw [SV.ren_congr hc F hcl]
    | meth x name => simp only [Cal.ren]; rw [SV.ren_congr hc x hcl]
  · rw [hargs', SV.renL_congr hc args hargs]
  · intro p q hp
    obtain ⟨i, h1, h2, h3⟩ := hown' p q hp
    exact ⟨i, h1, by rw [← Blk.ren_congr hc h3]; exact h2, h3⟩
  · intro o s' hR hwo hws
    obtain ⟨hmut, ks, hks, hK⟩ := k o s' hR
    have hsl : s'.own.length = ix.length := by have := congrArg List.length hmut; simpa [hlen] using this
    refine ⟨s'.own, [], by simp, hmut, ?_⟩
    have e1 : s'.own.map (Blk.ren (rixN ix S.own.length)) = ks := by
      rw [← hks]
      refine List.map_congr_left (fun q hq => ?_)
      exact (Blk.ren_congr hc (by rw [← hsl]; exact hws q hq)).symm
    have e2 : o.ren (rixN ix S.own.length) = o.ren (rix ix) := by
      cases o with
      | ret x => simp only [Out.ren]; rw [SV.ren_congr hc x (by rw [← hsl]; exact hwo)]
      | pan x => simp only [Out.ren]; rw [SV.ren_congr hc x (by rw [← hsl]; exact hwo)]
    rw [e1, e2]
    simpa using hK

/-- The value of a datum of one cell. -/
def D.one : D → Option Value
  | .int k n => some (.int k n)
  | .bool b => some (.bool b)
  | .str s => some (.string s)
  | _ => none

theorem repC_one {J : Nat → Prop} {w : World} {d : D} {u : Value} (h : D.one d = some u) (cs : List Value) : RepC J w d cs ↔ cs = [u] := by
  cases d <;> simp only [D.one, Option.some.injEq, reduceCtorEq] at h <;> subst h <;> simp only [RepC]
theorem one_cell {d : D} {u : Value} (h : D.one d = some u) : u.oneCell' = true ∧ u.cells = #[u] := by
  cases d <;> simp only [D.one, Option.some.injEq, reduceCtorEq] at h <;> subst h <;> exact ⟨rfl, rfl⟩

theorem RepE.setOne {J : Nat → Prop} {w : World} {d0 : D} {u : Value} (hu : D.one d0 = some u) : ∀ {ds : List D} {cs : List Value} {i : Nat}, RepE J w 1 ds cs → i < ds.length → RepE J w 1 (ds.set i d0) (cs.set i u)
  | d :: ds, cs, 0, h, _ => by
    simp only [RepE] at h
    obtain ⟨c, cs, rfl⟩ : ∃ c r, cs = c :: r := by cases cs with | nil => simp at h | cons c r => exact ⟨c, r, rfl⟩
    simp only [List.set_cons_zero, RepE, List.length_cons, List.take_succ_cons, List.take_zero, List.drop_succ_cons, List.drop_zero] at h ⊢
    exact ⟨by omega, (repC_one hu _).2 rfl, h.2.2⟩
  | d :: ds, cs, i + 1, h, hlt => by
    simp only [RepE] at h
    obtain ⟨c, cs, rfl⟩ : ∃ c r, cs = c :: r := by cases cs with | nil => simp at h | cons c r => exact ⟨c, r, rfl⟩
    simp only [List.set_cons_succ, RepE, List.length_cons, List.take_succ_cons, List.take_zero, List.drop_succ_cons, List.drop_zero, List.length_set] at h ⊢
    exact ⟨h.1, h.2.1, RepE.setOne hu h.2.2 (by simpa using hlt)⟩

/-- The place of an element, of one cell, of a slice that may grow. -/
theorem at_index_accG {P : Program} {tt : Tab} (hT : TTOK P tt) {t e e' : TypeId} {x ix : SV} {S : St} {K : SV → St → Prop} {a : Option Addr} {n c : Nat} {i : Int} {kk : IntKind} {ds : List D} (j : Nat) (hx : x = .v (.slice a n c)) (hi : ix = .v (.int kk i)) (ht : tt t = some (.slice e 1))
    (hacc : nth S.accs j = some ⟨.slice a n c, 1, e', ds⟩) (h0 : decide (0 ≤ i ∧ i.toNat < ds.length) = true) (h : ∀ b, a = some ⟨b, 0, none⟩ → K (.v (.pointer (some ⟨b, i.toNat, none⟩))) S) : AtPure P (fun ℓ => Instr.indexAt t (x.den ℓ) (ix.den ℓ)) S K := by
  obtain ⟨h0, hlt⟩ := of_decide_eq_true h0
  constructor
  intro J ℓ w hG hJ
  have ha : S.accs[j]? = some ⟨.slice a n c, 1, e', ds⟩ := by rw [← nth_eq]; exact hacc
  rcases hG.accs _ (List.mem_of_getElem? ha) with ⟨_, hd⟩ | ⟨b, cap, cc, hv, _, _, _, _⟩
  · simp only at hd; subst hd; simp at hlt
  simp only [Value.slice.injEq] at hv
  obtain ⟨rfl, rfl, rfl⟩ := hv
  have := h b rfl
  rw [← Nat.mul_one i.toNat] at this
  exact (at_index_acc hT hx hi ht h0 (by omega) this).sem J ℓ w hG hJ

theorem tt_cell {P : Program} {tt : Tab} (hT : TTOK P tt) {t : TypeId} (ht : (∃ z, tt t = some (.cell z)) ∨ tt t = some .str) : (∀ w, (isAgg t).run P w = .ok false w) ∧ ∀ w, (sizeOf t).run P w = .ok 1 w := by
  rcases ht with ⟨z, h⟩ | h
  · have := hT t _ h; exact ⟨this.agg, this.size⟩
  · have := (hT t _ h).1; exact ⟨this.agg, this.size⟩

/-- An element of a slice that may grow. -/
theorem at_load_accG {P : Program} {tt : Tab} (hT : TTOK P tt) {t e : TypeId} {x : SV} {S : St} {K : SV → St → Prop} {b n c i : Nat} {d : D} {u : Value} {ds : List D} (j : Nat) (hacc : nth S.accs j = some ⟨.slice (some ⟨b, 0, none⟩) n c, 1, e, ds⟩) (hd : ds[i]? = some d) (hu : D.one d = some u)
    (ht : (∃ z, tt t = some (.cell z)) ∨ tt t = some .str) (hx : x = .v (.pointer (some ⟨b, i, none⟩))) (h : K (.v u) S) : AtSem P (fun ℓ => Instr.loadAt t (x.den ℓ)) S K := by
  subst hx
  constructor
  intro J ℓ w hG hJ
  have ha : S.accs[j]? = some ⟨.slice (some ⟨b, 0, none⟩) n c, 1, e, ds⟩ := by rw [← nth_eq]; exact hacc
  rcases hG.accs _ (List.mem_of_getElem? ha) with ⟨hv, _⟩ | ⟨b', cap, cc, hv, hb, _, _, hre⟩
  · cases hv
  simp only [Value.slice.injEq, Option.some.injEq, Addr.mk.injEq, and_true] at hv
  obtain ⟨⟨rfl, _⟩, _, _⟩ := hv
  obtain ⟨hl, hc⟩ := hre.get hd
  rw [repC_one hu] at hc
  simp only [Nat.mul_one] at hc hl
  have hget : cc.toList[i]? = some u := by
    have := congrArg (fun l => l[0]?) hc
    simpa [List.getElem?_take] using this
  have hcell : w.cell? ⟨b, i, none⟩ = some u := by
    simp only [World.cell?, hb]
    simpa using hget
  refine ⟨_, ℓ, S, w, ?_, rfl, List.prefix_refl _, Ext.refl _ _, hG, fun _ hb => .inl hb, h⟩
  simp only [SV.den, Instr.loadAt, Instr.sureAddr, pure_bind, loadVar, Sem.run_bind, (tt_cell hT ht).1, Result.andThen_ok, Bool.false_eq_true, if_false, run_load, hcell]

/-- An element of a slice that may grow is written. -/
theorem at_store_accG {P : Program} {tt : Tab} (hT : TTOK P tt) {t e : TypeId} {x s : SV} {S : St} {K : SV → St → Prop} {b n c i : Nat} {d : D} {u : Value} {ds ds' : List D} (j : Nat) (hacc : nth S.accs j = some ⟨.slice (some ⟨b, 0, none⟩) n c, 1, e, ds⟩) (hi : i < ds.length) (hu : D.one d = some u)
    (ht : (∃ z, tt t = some (.cell z)) ∨ tt t = some .str) (hx : x = .v (.pointer (some ⟨b, i, none⟩))) (hs : s = .v u) (hds : ds' = ds.set i d) (h : forceL (setNth S.accs j ⟨.slice (some ⟨b, 0, none⟩) n c, 1, e, ds'⟩) (fun accs => K undefS ⟨S.own, accs, S.reps⟩)) :
    AtSem P (fun ℓ => do Instr.storeAt t (x.den ℓ) (s.den ℓ); pure undef) S K := by
  subst hx hs hds
  rw [forceL_eq] at h
  obtain ⟨hu1, hu2⟩ := one_cell hu
  constructor
  intro J ℓ w hG hJ
  have ha : S.accs[j]? = some ⟨.slice (some ⟨b, 0, none⟩) n c, 1, e, ds⟩ := by rw [← nth_eq]; exact hacc
  rcases hG.accs _ (List.mem_of_getElem? ha) with ⟨hv, _⟩ | ⟨b', cap, cc, hv, hb, hcs, hle, hre⟩
  · cases hv
  simp only [Value.slice.injEq, Option.some.injEq, Addr.mk.injEq, and_true] at hv
  obtain ⟨⟨rfl, _⟩, rfl, rfl⟩ := hv
  simp only at hb hcs hle hre
  have hsz := (tt_cell hT ht).2 w
  have hicc : i < cc.size := by omega
  have hst := run_storeCells_at P b i e [u] 0 cc w hb (by simp; omega) (by simp [hu1])
  have hset : (cc.toList.take i ++ [u] ++ cc.toList.drop (i + 1)) = cc.toList.set i u := by
    rw [List.set_eq_take_append_cons_drop, if_pos (by simpa using hicc)]
    simp
  simp only [Nat.add_zero, List.length_cons, List.length_nil, Nat.zero_add, hset] at hst
  have hrow := setRow_heap w b cc (cc.toList.set i u).toArray e (0, 0) hb
  have hgood := hG.regrow (j := j) (a' := ⟨.slice (some ⟨b, 0, none⟩) ds.length c, 1, e, ds.set i d⟩) (w' := w.setRow b (cc.toList.set i u).toArray) hJ ha (by simp [World.setRow])
    (fun x hx hm => setRow_other w b x _ (fun e => hm (by simp [accBlk, e]))) (by simp [accBlk]) (fun x hx => ?_) (fun J' hj => ?_)
  · refine ⟨undefS, ℓ, _, w.setRow b (cc.toList.set i u).toArray, ?_, rfl, List.prefix_refl _, ⟨rfl, rfl, by simp [World.setRow], fun x hx hm => setRow_other w b x _ (fun e => hm ?_)⟩, hgood.1, hgood.2, h⟩
    · have hce : u.cells.size = 1 := by rw [hu2]; rfl
      have hcl : u.cells.toList = [u] := by rw [hu2]
      simp only [SV.den, Instr.storeAt, Instr.sureAddr, pure_bind, storeVar, Sem.run_bind, hsz, Result.andThen_ok, hce, ne_eq, not_true_eq_false, if_false, hcl, hst, Sem.run_pure, undefS, SV.denL, undef]
    · simp only [mutS]
      exact List.mem_append.2 (.inr (List.mem_flatMap.2 ⟨_, List.mem_of_getElem? ha, by simp [accBlk, e]⟩))
  · simp [accBlk] at hx
    subst hx
    exact ⟨.inl (by simp [accBlk]), by simpa [World.setRow] using lt_of_get hb⟩
  · refine .inr ⟨b, c, _, by simp, hrow, by simpa using hcs, by simpa using hle, ?_⟩
    simp only
    exact RepE.setOne hu (RepE.map hj 1 _ _ hre) hi

theorem map_set' {α : Type} (f : α → D) (l : List α) (i : Nat) (x : α) : (l.set i x).map f = (l.map f).set i (f x) := List.map_set

/-- Maps as lists of what was put, the latest at its first place. -/
def mget {κ β : Type} [DecidableEq κ] : List (κ × β) → κ → Option β
  | [], _ => none
  | (k, v) :: r, n => if n = k then some v else mget r n
def mput {κ β : Type} [DecidableEq κ] (n : κ) (v : β) : List (κ × β) → List (κ × β)
  | [] => [(n, v)]
  | (k, u) :: r => if n = k then (k, v) :: r else (k, u) :: mput n v r

def encM {κ β : Type} (f : β → Value) (l : List (κ × β)) : List (κ × Value) := l.map fun p => (p.1, f p.2)
theorem lookS_enc {β : Type} (f : β → Value) (n : ByteArray) : ∀ (l : List (ByteArray × β)), lookS (encM f l) n = (mget l n).map f
  | [] => rfl
  | (k, v) :: r => by
    have ih := lookS_enc f n r
    simp only [encM] at ih
    simp only [encM, List.map_cons, lookS, mget]
    split
    · rfl
    · exact ih
theorem putS_enc {β : Type} (f : β → Value) (n : ByteArray) (v : β) : ∀ (l : List (ByteArray × β)), putS n (f v) (encM f l) = encM f (mput n v l)
  | [] => rfl
  | (k, u) :: r => by
    have ih := putS_enc f n v r
    simp only [encM] at ih
    simp only [encM, List.map_cons, putS, mput]
    split
    · rfl
    · simp only [List.map_cons, ih]
theorem lookM_enc {β : Type} (f : β → Value) (n : Int) : ∀ (l : List (Int × β)), lookM (encM f l) n = (mget l n).map f
  | [] => rfl
  | (k, v) :: r => by
    have ih := lookM_enc f n r
    simp only [encM] at ih
    simp only [encM, List.map_cons, lookM, mget]
    split
    · rfl
    · exact ih
theorem putAt_enc {β : Type} (f : β → Value) (n : Int) (v : β) : ∀ (l : List (Int × β)), putAt n (f v) (encM f l) = encM f (mput n v l)
  | [] => rfl
  | (k, u) :: r => by
    have ih := putAt_enc f n v r
    simp only [encM] at ih
    simp only [encM, List.map_cons, putAt, mput]
    split
    · rfl
    · simp only [List.map_cons, ih]

theorem at_lookupSG {P : Program} {tt : Tab} (hT : TTOK P tt) {β : Type} (f : β → Value) (z : β) {t k e : TypeId} {x ix : SV} {S : St} {K : SV → St → Prop} {i : Nat} {n : ByteArray} {l : List (ByteArray × β)} {ok : Bool} (ht : tt t = some (.map k e)) (hk : P.underlying k = some .string) (hz : tt e = some (.cell (f z)))
    (hx : x = .mp i) (hi : nth S.own i = some (.obj (mapS (encM f l)))) (hix : ix = .v (.string n))
    (h : K (match ok with | true => .tup [.v (f ((mget l n).getD z)), .v (.bool (mget l n).isSome)] | false => .v (f ((mget l n).getD z))) S) : AtSem P (fun ℓ => Instr.lookup t (x.den ℓ) (ix.den ℓ) ok) S K := by
  refine at_lookupS hT (f z) ht hk (hT e _ hz).zero hx hi hix ?_ ?_
  · intro v hv
    rw [lookS_enc, Option.map_eq_some_iff] at hv
    obtain ⟨u, hu, rfl⟩ := hv
    cases ok <;> simpa [hu] using h
  · intro hv
    rw [lookS_enc, Option.map_eq_none_iff] at hv
    cases ok <;> simpa [hv] using h

theorem AtPure.le {P : Program} {m : List Base → Sem Value} {S S' : St} {K : SV → St → Prop} (h : StLe S S') (ho : S'.own = S.own) (k : AtPure P m S' K) : AtPure P m S K := by
  constructor
  intro J ℓ w hG hJ
  obtain ⟨h1, h2⟩ := h.2 J ℓ w hG
  rw [ho, ← hG.len, List.take_length] at h1 h2
  obtain ⟨r, ℓ', S'', a1, a2, a3, a4, a5, a6, a7⟩ := k.sem J ℓ w h1 hJ
  refine ⟨r, ℓ', S'', a1, a2, a3, a4, fun b hb => h2 b (a5 b hb), ?_, a7⟩
  intro i cs hi
  refine a6 i cs ?_
  rw [ho]; exact hi

end Go.Tr
end

/-! Hand -/
section
namespace Go.Proofs.YtogicnodmgdnbaaGreat
open Go.Tr Go
set_option maxRecDepth 10000

theorem heads0 (hd : Int) (t : Tm) (k : Int) (l : List Int) (a a1 : Option Addr) (c c1 : Nat) (h1 : 0 ≤ k) (h2 : k + t.height ≤ 1000000) (h3 : l.length + t.count ≤ 1000000) :
    Pure Tryz.prog (fnS 116) [tmS t a c, iS hd, iS k, .v (.slice a1 (List.map (D.int .i64) l).length c1)] [tmR t a c, (.slice a1 (List.map (D.int .i64) l).length c1, .sl 1 (List.map (D.int .i64) l))]
      (fun r out => ∃ a' c', r = .v (.slice a' (List.map (D.int .i64) (headsF hd t k l)).length c') ∧ out = [(.slice a' (List.map (D.int .i64) (headsF hd t k l)).length c', .sl 1 (List.map (D.int .i64) (headsF hd t k l)))]) := by
  have := heads_spec hd t k l a a1 c c1 h1 h2 h3
  simp only [List.length_map]
  exact this
end Go.Proofs.YtogicnodmgdnbaaGreat
end

/-! Lexis -/
section
namespace Go.Proofs.YtogicnodmgdnbaaGreat
open Go.Tr Go
set_option maxRecDepth 10000

abbrev cS (c : UInt8) : SV := .v (.int .u8 c.toNat)
abbrev sS (s : ByteArray) : SV := .v (.string s)

def smallC (c : UInt8) : Bool := decide ((c.toNat : Int) ≥ 97) && decide ((c.toNat : Int) ≤ 122)
def capC (c : UInt8) : Bool := decide ((c.toNat : Int) ≥ 65) && decide ((c.toNat : Int) ≤ 90)
def digC (c : UInt8) : Bool := decide ((c.toNat : Int) ≥ 48) && decide ((c.toNat : Int) ≤ 57)
def nameC (c : UInt8) : Bool := (((smallC c || capC c) || digC c) || (c.toNat : Int) == 95) || (c.toNat : Int) == 39

/-- What lexis.name answers. -/
def nameF (f : UInt8 → Bool) (s : ByteArray) : Bool := match s.data.toList with
  | [] => false
  | c :: l => decide ((c :: l).length ≤ 16) && f c && (c :: l).all nameC

theorem small_spec' (c : UInt8) : Pure Tryz.prog (fnS 124) [cS c] [] (fun r out => r = bS (smallC c) ∧ out = []) := by
  refine spec_of_body (N := 9) (m := 0) (dt := fun _ => none) [] ttOK Tryz.func124 rfl Tryz.call124 Tryz.ntmps124 rfl rfl rfl mixed (by kernel_rfl) ?_
  exact AtRet.pure [] rfl (by simp) ⟨rfl, rfl⟩
theorem capital_spec (c : UInt8) : Pure Tryz.prog (fnS 185) [cS c] [] (fun r out => r = bS (capC c) ∧ out = []) := by
  refine spec_of_body (N := 9) (m := 0) (dt := fun _ => none) [] ttOK Tryz.func185 rfl Tryz.call185 Tryz.ntmps185 rfl rfl rfl mixed (by kernel_rfl) ?_
  exact AtRet.pure [] rfl (by simp) ⟨rfl, rfl⟩
theorem digit_spec (c : UInt8) : Pure Tryz.prog (fnS 186) [cS c] [] (fun r out => r = bS (digC c) ∧ out = []) := by
  refine spec_of_body (N := 9) (m := 0) (dt := fun _ => none) [] ttOK Tryz.func186 rfl Tryz.call186 Tryz.ntmps186 rfl rfl rfl mixed (by kernel_rfl) ?_
  exact AtRet.pure [] rfl (by simp) ⟨rfl, rfl⟩

theorem nameByte_spec (c : UInt8) : Pure Tryz.prog (fnS 163) [cS c] [] (fun r out => r = bS (nameC c) ∧ out = []) := by
  refine spec_of_body (N := 21) (m := 0) (dt := fun _ => none) [] ttOK Tryz.func163 rfl Tryz.call163 Tryz.ntmps163 rfl rfl rfl mixed (by kernel_rfl) ?_
  refine (small_spec' c).at (by simp) rfl rfl ?_
  rintro r out ⟨rfl, rfl⟩
  refine AtGuard.mk (fun h => ?_) (fun h => ?_)
  · have h : smallC c = false := h
    refine (capital_spec c).at (by simp) rfl rfl ?_
    rintro r out ⟨rfl, rfl⟩
    refine AtGuard.mk (fun h2 => ?_) (fun h2 => ?_)
    · have h2 : capC c = false := h2
      refine (digit_spec c).at (by simp) rfl rfl ?_
      rintro r out ⟨rfl, rfl⟩
      exact AtRet.pure [] rfl (by simp) ⟨by simp [nameC, h, h2], rfl⟩
    · have h2 : capC c = true := h2
      exact AtRet.pure [] rfl (by simp) ⟨by simp [nameC, h, h2], rfl⟩
  · have h : smallC c = true := h
    refine AtGuard.mk (fun h => by cases h) (fun _ => ?_)
    exact AtRet.pure [] rfl (by simp) ⟨by simp [nameC, h], rfl⟩

/-- A function of bytes that lexis.name asks. -/
def AsksByte (F : SV) (f : UInt8 → Bool) : Prop := ∀ c, Pure Tryz.prog (.val F) [cS c] [] (fun r out => r = bS (f c) ∧ out = [])

theorem name_spec (F : SV) (hF : F.wf 0 = true) (f : UInt8 → Bool) (hf : AsksByte F f) (s : ByteArray) : Pure Tryz.prog (fnS 123) [sS s, F] [] (fun r out => r = bS (nameF f s) ∧ out = []) := by
  have hsz : s.size = s.data.toList.length := rfl
  refine spec_of_body (N := 32) (m := 0) (dt := fun _ => none) [] ttOK Tryz.func123 rfl Tryz.call123 Tryz.ntmps123 rfl (by simp [SV.wfL, SV.wf, hF]) rfl mixed (by kernel_rfl) ?_
  have hN : nameF f s = match s.data.toList with
    | [] => false
    | c :: l => decide ((c :: l).length ≤ 16) && f c && (c :: l).all nameC := rfl
  refine AtGuard.mk (fun h => ?_) (fun h => ?_)
  · have h : (decide ((s.size : Int) < 1) || decide ((s.size : Int) > 16)) = false := h
    simp only [Bool.or_eq_false_iff, decide_eq_false_iff_not] at h
    obtain ⟨c, l, hl⟩ : ∃ c l, s.data.toList = c :: l := by
      cases hl : s.data.toList with
      | nil => have h0 : s.size = 0 := by rw [hsz, hl]; rfl
               omega
      | cons c l => exact ⟨c, l, rfl⟩
    rw [hl] at hN hsz
    have h16 : (c :: l).length ≤ 16 := by omega
    simp only [h16, decide_true, Bool.true_and] at hN
    refine at_index_str ttOK rfl rfl rfl (by decide) (b := c) (by rw [hl]; rfl) ?_
    refine (hf c).at (by simp) rfl hF ?_
    rintro r out ⟨rfl, rfl⟩
    refine AtIf.mk (fun h2 => ?_) (fun h2 => ?_)
    · have h2 : f c = false := by simpa using h2
      exact AtRet.pure [] rfl (by simp) ⟨by rw [hN, h2]; rfl, rfl⟩
    · have h2 : f c = true := by simpa using h2
      rw [h2, Bool.true_and] at hN
      refine AtLoop.mk ⟨Nat, fun i => [(23, iS i), (22, iS s.size), (0, sS s)], fun _ => ⟨[], [], []⟩,
        fun i => i ≤ (c :: l).length ∧ nameF f s = ((c :: l).drop i).all nameC, fun i => (c :: l).length - i, 0, ⟨Nat.zero_le _, hN⟩, ⟨rfl, rfl, rfl, trivial⟩, StLe.refl _, fun _ _ => ⟨rfl, rfl⟩, ?_⟩
      rintro i ⟨hi, hinv⟩
      refine AtIf.mk (fun h1 => ?_) (fun h1 => ?_)
      · simp only [decide_eq_true_eq, hsz] at h1
        obtain ⟨x, hx⟩ : ∃ x, (c :: l)[i]? = some x := ⟨_, List.getElem?_eq_getElem (by omega)⟩
        refine at_index_str ttOK rfl rfl rfl (by omega) (b := x) (by rw [Int.toNat_natCast, hl]; exact hx) ?_
        refine (nameByte_spec x).at (by simp) rfl rfl ?_
        rintro r out ⟨rfl, rfl⟩
        rw [drop_cons hx, List.all_cons] at hinv
        refine AtIf.mk (fun h3 => ?_) (fun h3 => ?_)
        · have h3 : nameC x = false := by simpa using h3
          exact AtRet.pure [] rfl (by simp) ⟨by rw [hinv, h3]; rfl, rfl⟩
        · have h3 : nameC x = true := by simpa using h3
          have hw3 : IntKind.i64.wrap (i + 1) = ((i + 1 : Nat) : Int) := wrap_i64 (by omega) (by omega)
          exact ⟨i + 1, ⟨by omega, by rw [hinv, h3]; rfl⟩, by simp only; omega, ⟨by rw [← hw3]; rfl, rfl, rfl, trivial⟩, StLe.to _ _ rfl (by simp) rfl rfl⟩
      · simp only [decide_eq_false_iff_not, hsz] at h1
        rw [List.drop_of_length_le (by omega)] at hinv
        exact AtRet.pure [] rfl (by simp) ⟨by rw [hinv]; rfl, rfl⟩
  · have h : (decide ((s.size : Int) < 1) || decide ((s.size : Int) > 16)) = true := h
    refine AtIf.mk (fun _ => ?_) (fun h => by cases h)
    have : nameF f s = false := by
      rw [hN]
      cases hl : s.data.toList with
      | nil => rfl
      | cons c l =>
        rw [hl] at hsz
        simp at hsz h
        simp
        omega
    exact AtRet.pure [] rfl (by simp) ⟨by rw [this], rfl⟩

def isSmallF (s : ByteArray) : Bool := nameF smallC s
def isCapitalF (s : ByteArray) : Bool := nameF capC s

theorem isSmall_spec (s : ByteArray) : Pure Tryz.prog (fnS 78) [sS s] [] (fun r out => r = bS (isSmallF s) ∧ out = []) := by
  refine spec_of_body (N := 5) (m := 0) (dt := fun _ => none) [] ttOK Tryz.func78 rfl Tryz.call78 Tryz.ntmps78 rfl rfl rfl mixed (by kernel_rfl) ?_
  refine (name_spec _ rfl smallC (fun c => small_spec' c) s).at (by simp) rfl rfl ?_
  rintro r out ⟨rfl, rfl⟩
  exact AtRet.pure [] rfl (by simp) ⟨rfl, rfl⟩
theorem isCapital_spec (s : ByteArray) : Pure Tryz.prog (fnS 165) [sS s] [] (fun r out => r = bS (isCapitalF s) ∧ out = []) := by
  refine spec_of_body (N := 5) (m := 0) (dt := fun _ => none) [] ttOK Tryz.func165 rfl Tryz.call165 Tryz.ntmps165 rfl rfl rfl mixed (by kernel_rfl) ?_
  refine (name_spec _ rfl capC (fun c => capital_spec c) s).at (by simp) rfl rfl ?_
  rintro r out ⟨rfl, rfl⟩
  exact AtRet.pure [] rfl (by simp) ⟨rfl, rfl⟩

end Go.Proofs.YtogicnodmgdnbaaGreat
end

/-! Strs -/
section
namespace Go.Proofs.YtogicnodmgdnbaaGreat
open Go.Tr Go
set_option maxRecDepth 10000

abbrev stD (l : List ByteArray) : List D := l.map D.str
abbrev stS (l : List ByteArray) (a : Option Addr) (c : Nat) : SV := .v (.slice a (stD l).length c)
abbrev stR (l : List ByteArray) (a : Option Addr) (c : Nat) : Value × D := (.slice a (stD l).length c, .sl 1 (stD l))
theorem stD_get {l : List ByteArray} {i : Nat} {x : ByteArray} (h : l[i]? = some x) : (stD l)[i]? = some (.str x) := by rw [List.getElem?_map, h]; rfl

/-- Where a string stands in a list. -/
def idxS (v : ByteArray) : List ByteArray → Nat → Int
  | [], _ => -1
  | x :: l, i => if v.toList == x.toList then (i : Int) else idxS v l (i + 1)

theorem indexS_spec (l : List ByteArray) (v : ByteArray) (a : Option Addr) (c : Nat) : Pure Tryz.prog (fnS 164) [stS l a c, sS v] [stR l a c] (fun r out => r = iS (idxS v l 0) ∧ out = []) := by
  refine Meets.of_ok fun hok => ?_
  have hB : (stD l).length ≤ 1152921504606846976 := (hok _ (List.mem_cons_self ..)).1
  have hlen : (stD l).length = l.length := List.length_map ..
  refine spec_of_body (N := 19) (m := 0) (dt := fun _ => none) [] ttOK Tryz.func164 rfl Tryz.call164 Tryz.ntmps164 rfl rfl rfl mixed (by kernel_rfl) ?_
  refine AtLoop.mk ⟨Nat, fun i => [(8, iS i), (7, iS (stD l).length), (0, stS l a c), (1, sS v)], fun _ => ⟨[], [], [stR l a c]⟩,
    fun i => i ≤ l.length ∧ idxS v l 0 = idxS v (l.drop i) i, fun i => l.length - i, 0, ⟨Nat.zero_le _, rfl⟩, ⟨rfl, rfl, rfl, rfl, trivial⟩, StLe.refl _, fun _ _ => ⟨rfl, rfl⟩, ?_⟩
  rintro i ⟨hi, hinv⟩
  refine AtIf.mk (fun h1 => ?_) (fun h1 => ?_)
  · simp only [decide_eq_true_eq, hlen] at h1
    obtain ⟨x, hx⟩ : ∃ x, l[i]? = some x := ⟨_, List.getElem?_eq_getElem (by omega)⟩
    refine at_index ttOK 0 rfl rfl rfl rfl (by omega) (by rw [Int.toNat_natCast]; exact stD_get hx) ?_
    rw [drop_cons hx, idxS] at hinv
    refine AtIf.mk (fun h2 => ?_) (fun h2 => ?_)
    · have h2 : (v.toList == x.toList) = true := h2
      rw [if_pos h2] at hinv
      exact AtRet.pure [] rfl (by simp) ⟨by rw [hinv], rfl⟩
    · have h2 : (v.toList == x.toList) = false := h2
      rw [h2] at hinv
      have hw3 : IntKind.i64.wrap (i + 1) = ((i + 1 : Nat) : Int) := wrap_i64 (by omega) (by omega)
      exact ⟨i + 1, ⟨by omega, hinv⟩, by simp only; omega, ⟨by rw [← hw3]; rfl, rfl, rfl, rfl, trivial⟩, StLe.to _ _ rfl (by simp) rfl rfl⟩
  · simp only [decide_eq_false_iff_not, hlen] at h1
    rw [List.drop_of_length_le (by omega)] at hinv
    exact AtRet.pure [] rfl (by simp) ⟨by rw [hinv]; rfl, rfl⟩

/-- A string stands in a list. -/
def hasS (v : ByteArray) (l : List ByteArray) : Bool := decide (idxS v l 0 ≥ 0)

theorem containsS_spec (l : List ByteArray) (v : ByteArray) (a : Option Addr) (c : Nat) : Pure Tryz.prog (fnS 126) [stS l a c, sS v] [stR l a c] (fun r out => r = bS (hasS v l) ∧ out = []) := by
  refine spec_of_body (N := 9) (m := 0) (dt := fun _ => none) [] ttOK Tryz.func126 rfl Tryz.call126 Tryz.ntmps126 rfl rfl rfl mixed (by kernel_rfl) ?_
  refine (indexS_spec l v a c).at (by simp) rfl rfl ?_
  rintro r out ⟨rfl, rfl⟩
  exact AtRet.pure [] rfl (by simp) ⟨rfl, rfl⟩

end Go.Proofs.YtogicnodmgdnbaaGreat
end

/-! Raws -/
section
namespace Go.Proofs.YtogicnodmgdnbaaGreat
open Go.Tr Go
set_option maxRecDepth 10000

inductive Rw where
  | mk (op : Int) (name : ByteArray) (args : List Rw)

def Rw.op : Rw → Int | .mk o _ _ => o
def Rw.name : Rw → ByteArray | .mk _ s _ => s
def Rw.args : Rw → List Rw | .mk _ _ a => a

mutual
def Rw.enc : Rw → D
  | .mk o s a => .agg [.int .i64 o, .str s, .sl 3 (Rw.encL a)]
def Rw.encL : List Rw → List D
  | [] => []
  | t :: ts => t.enc :: Rw.encL ts
 end
theorem Rw.encL_eq : ∀ (l : List Rw), Rw.encL l = l.map Rw.enc
  | [] => rfl
  | t :: ts => by simp only [Rw.encL, List.map_cons, Rw.encL_eq ts]
theorem Rw.encL_length (l : List Rw) : (Rw.encL l).length = l.length := by simp [Rw.encL_eq]
theorem Rw.enc_eq (t : Rw) : t.enc = .agg [.int .i64 t.op, .str t.name, .sl 3 (Rw.encL t.args)] := by cases t; rfl
theorem Rw.encL_get {l : List Rw} {i : Nat} {t : Rw} (h : l[i]? = some t) : (Rw.encL l)[i]? = some (.agg [.int .i64 t.op, .str t.name, .sl 3 (Rw.encL t.args)]) := by
  rw [Rw.encL_eq, List.getElem?_map, h]; cases t; rfl

theorem Rw.ind {motive : Rw → Prop} (h : ∀ t, (∀ x ∈ t.args, motive x) → motive t) (t : Rw) : motive t := by
  induction t using Rw.rec (motive_2 := fun ts => ∀ x ∈ ts, motive x) with
  | nil => rename_i x hx; cases hx
  | cons t ts ih1 ih2 => rename_i x hx; rcases List.mem_cons.1 hx with e | e; (subst e; exact ih1); exact ih2 x e
  | mk op name args ih => exact h _ ih

abbrev rwS (t : Rw) (a : Option Addr) (c : Nat) : SV := .agg [.v (.int .i64 t.op), .v (.string t.name), .v (.slice a (Rw.encL t.args).length c)]
abbrev rwR (t : Rw) (a : Option Addr) (c : Nat) : Value × D := (.slice a (Rw.encL t.args).length c, .sl 3 (Rw.encL t.args))

abbrev tyB : ByteArray := ⟨#[116, 121, 112, 101]⟩
abbrev emB : ByteArray := ⟨#[]⟩

/-- A name other than type. -/
def namedF (s : ByteArray) : Bool := isCapitalF s || (isSmallF s && !(s.toList == tyB.toList))

def rawArgs (op : Int) : Int := if op = 4 ∨ op = 5 ∨ op = 6 ∨ op = 7 then 2 else 0
def rawHas (op : Int) : Bool := op == 2 || op == 5 || op == 7
def rawOp (op : Int) : Bool := decide (1 ≤ op ∧ op ≤ 7)
def okRaw (op : Int) (s : ByteArray) (len : Nat) : Bool := rawOp op && ((len : Int) == rawArgs op) && (rawHas op == namedF s) && (rawHas op || s.toList == emB.toList)

mutual
/-- The nodes of a raw expression, as a term: those that are not built as nodes are, have no Op. -/
def Rw.sk : Rw → Tm
  | .mk o s a => .mk (if okRaw o s a.length then 4 else 0) 1 0 (Rw.skL a)
def Rw.skL : List Rw → List Tm
  | [] => []
  | t :: ts => t.sk :: Rw.skL ts
 end
theorem Rw.sk_eq (t : Rw) : t.sk = .mk (if okRaw t.op t.name t.args.length then 4 else 0) 1 0 (Rw.skL t.args) := by cases t; rfl
theorem sk_ok (o : Int) (s : ByteArray) (len m : Nat) : okNode (if okRaw o s len then 4 else 0) 1 0 m = okRaw o s len := by
  cases okRaw o s len <;> simp [okNode]

theorem named_spec (s : ByteArray) : Pure Tryz.prog (fnS 127) [sS s] [] (fun r out => r = bS (namedF s) ∧ out = []) := by
  refine spec_of_body (N := 13) (m := 0) (dt := fun _ => none) [] ttOK Tryz.func127 rfl Tryz.call127 Tryz.ntmps127 rfl rfl rfl mixed (by kernel_rfl) ?_
  refine (isCapital_spec s).at (by simp) rfl rfl ?_
  rintro r out ⟨rfl, rfl⟩
  refine AtGuard.mk (fun h => ?_) (fun h => ?_)
  · have h : isCapitalF s = false := h
    refine (isSmall_spec s).at (by simp) rfl rfl ?_
    rintro r out ⟨rfl, rfl⟩
    exact AtRet.pure [] rfl (by simp) ⟨by rw [namedF, h]; rfl, rfl⟩
  · have h : isCapitalF s = true := h
    exact AtRet.pure [] rfl (by simp) ⟨by rw [namedF, h]; rfl, rfl⟩

theorem formedRaw_spec (t : Rw) : ∀ (depth k : Int) (a : Option Addr) (c : Nat), 0 ≤ depth → depth ≤ 41 → 0 ≤ k → k ≤ 400 →
    Meets Tryz.prog (fnS 125) [rwS t a c, iS depth, .loc 0 0] ⟨[.cells 3 [iS k]], [], [rwR t a c]⟩
      (fun o S' => o = .ret (bS (properF t.sk depth (k + 200)).1) ∧ S' = ⟨[.cells 3 [iS ((properF t.sk depth (k + 200)).2 - 200)]], [], []⟩) := by
  induction t using Rw.ind with
  | h t ih =>
  intro depth k a c hd1 hd2 hk1 hk2
  refine Meets.of_ok fun hok => ?_
  have hB : (Rw.encL t.args).length ≤ 1152921504606846976 := (hok _ (List.mem_cons_self ..)).1
  have hlen := Rw.encL_length t.args
  refine spec_of_body (N := 72) (m := 1) (dt := fun _ => none) [5] ttOK Tryz.func125 rfl Tryz.call125 Tryz.ntmps125 rfl rfl rfl mixed (by kernel_rfl) ?_
  have hw : IntKind.i64.wrap (k + 1) = k + 1 := wrap_i64 (by omega) (by omega)
  have hF := properF_eq t.sk depth (k + 200)
  rw [Rw.sk_eq] at hF
  simp only [Tm.op, Tm.hd, Tm.n, Tm.args, sk_ok] at hF
  rw [← Rw.sk_eq] at hF
  refine AtIf.mk ?_ ?_
  · intro h
    rw [hw] at h
    refine ret_own [.cells 3 [iS (k + 1)]] (by simp only [hw]; rfl) rfl rfl rfl rfl ?_
    have h : 400 < k + 1 ∨ 40 < depth := by simpa using h
    rw [hF, if_pos (by omega)]
    have e : k + 200 + 1 - 200 = k + 1 := by omega
    exact ⟨rfl, by simp only [e]⟩
  · intro h
    rw [hw] at h
    have hno : ¬ (400 < k + 1 ∨ 40 < depth) := by simpa using h
    rw [if_neg (by omega)] at hF
    refine AtCut.mk ⟨Unit, fun _ => [(7, iS (rawArgs t.op)), (8, bS (rawHas t.op)), (3, .loc 1 0), (1, iS depth), (2, .loc 0 0)],
      fun _ => ⟨[.cells 3 [iS (k + 1)], .cells 25 [iS t.op, sS t.name, .v (.slice a (Rw.encL t.args).length c)]], [], [rwR t a c]⟩,
      fun _ => rawOp t.op = true, fun _ _ => ⟨rfl, rfl⟩, ?_, ?_⟩
    · rw [hw]
      have fin : ∀ {n : Int} {b : Bool} {env : Env} {S : St}, n = rawArgs t.op → b = rawHas t.op → rawOp t.op = true → S = ⟨[.cells 3 [iS (k + 1)], .cells 25 [iS t.op, sS t.name, .v (.slice a (Rw.encL t.args).length c)]], [], [rwR t a c]⟩ →
          envLe env [(7, iS n), (8, bS b), (3, .loc 1 0), (1, iS depth), (2, .loc 0 0)] →
          ∃ x : Unit, rawOp t.op = true ∧ envLe env [(7, iS (rawArgs t.op)), (8, bS (rawHas t.op)), (3, .loc 1 0), (1, iS depth), (2, .loc 0 0)] ∧ StLe S ⟨[.cells 3 [iS (k + 1)], .cells 25 [iS t.op, sS t.name, .v (.slice a (Rw.encL t.args).length c)]], [], [rwR t a c]⟩ := by
        rintro n b env S rfl rfl ho rfl he
        exact ⟨(), ho, he, StLe.refl _⟩
      have hop : t.op = 1 ∨ t.op = 2 ∨ t.op = 3 ∨ t.op = 4 ∨ t.op = 5 ∨ t.op = 6 ∨ t.op = 7 ∨ (t.op ≠ 1 ∧ t.op ≠ 2 ∧ t.op ≠ 3 ∧ t.op ≠ 4 ∧ t.op ≠ 5 ∧ t.op ≠ 6 ∧ t.op ≠ 7) := by omega
      rcases hop with ho | ho | ho | ho | ho | ho | ho | ⟨h1, h2, h3, h4, h5, h6, h7⟩
      iterate 7
        · repeat (refine AtIf.mk (fun h => ?_) (fun h => ?_) <;> first | (exfalso; simp [ho] at h; done) | skip)
          exact fin (by rw [ho]; rfl) (by rw [ho]; rfl) (by rw [ho]; rfl) rfl ⟨rfl, rfl, rfl, rfl, rfl, trivial⟩
      · repeat (refine AtIf.mk (fun h => ?_) (fun h => ?_) <;> first | (exfalso; simp [h1, h2, h3, h4, h5, h6, h7] at h; done) | skip)
        refine ret_own [.cells 3 [iS (k + 1)]] rfl rfl rfl rfl rfl ?_
        have : okRaw t.op t.name t.args.length = false := by
          have : rawOp t.op = false := by simp [rawOp]; omega
          rw [okRaw, this]; rfl
        rw [hF, this]
        have e : k + 200 + 1 - 200 = k + 1 := by omega
        exact ⟨rfl, by simp only [Bool.false_eq_true, if_false, e]⟩
    · intro _ hop
      have hE : okRaw t.op t.name t.args.length = (((t.args.length : Int) == rawArgs t.op) && (rawHas t.op == namedF t.name) && (rawHas t.op || t.name.toList == emB.toList)) := by
        rw [okRaw, hop, Bool.true_and]
      have bad : okRaw t.op t.name t.args.length = false → properF t.sk depth (k + 200) = (false, k + 200 + 1) := by
        intro h; rw [hF, h]; rfl
      have e : k + 200 + 1 - 200 = k + 1 := by omega
      have hend : okRaw t.op t.name t.args.length = false → bS false = bS (properF t.sk depth (k + 200)).1 ∧ ([.cells 3 [iS (k + 1)]] : List Blk) = [.cells 3 [iS ((properF t.sk depth (k + 200)).2 - 200)]] := by
        intro h; rw [bad h]; simp only [e]; exact ⟨trivial, trivial⟩
      refine AtGuard.mk (fun h1 => ?_) (fun h1 => ?_)
      rotate_left
      · refine AtIf.mk (fun _ => ?_) (fun h => by cases h)
        have h1 : ((((Rw.encL t.args).length : Nat) : Int) != rawArgs t.op) = true := h1
        refine ret_own [.cells 3 [iS (k + 1)]] rfl rfl rfl rfl rfl ?_
        have : okRaw t.op t.name t.args.length = false := by
          rw [hE]
          simp [hlen] at h1
          simp [h1]
        obtain ⟨e1, e2⟩ := hend this
        exact ⟨by rw [← e1], by rw [← e2]⟩
      refine (named_spec t.name).at (by simp) rfl rfl ?_
      rintro r out ⟨rfl, rfl⟩
      refine at_boolNe ?_
      have h1 : ((((Rw.encL t.args).length : Nat) : Int) != rawArgs t.op) = false := h1
      refine AtIf.mk (fun h2 => ?_) (fun h2 => ?_)
      · refine ret_own [.cells 3 [iS (k + 1)]] rfl rfl rfl rfl rfl ?_
        have : okRaw t.op t.name t.args.length = false := by
          have h2 : ((rawHas t.op != namedF t.name) || (!rawHas t.op && !(t.name.toList == emB.toList))) = true := h2
          rw [hE]
          revert h2
          cases rawHas t.op <;> cases namedF t.name <;> cases (t.name.toList == emB.toList) <;> simp
        obtain ⟨e1, e2⟩ := hend this
        exact ⟨by rw [← e1], by rw [← e2]⟩
      have hokR : okRaw t.op t.name t.args.length = true := by
        have h2 : ((rawHas t.op != namedF t.name) || (!rawHas t.op && !(t.name.toList == emB.toList))) = false := h2
        simp [hlen] at h1
        rw [hE, h1]
        revert h2
        cases rawHas t.op <;> cases namedF t.name <;> cases (t.name.toList == emB.toList) <;> simp
      rw [hokR, if_pos rfl] at hF
      refine AtLoop.mk ⟨Nat × Int, fun x => [(61, iS x.1), (60, iS (Rw.encL t.args).length), (59, .v (.slice a (Rw.encL t.args).length c)), (3, .loc 1 0), (1, iS depth), (2, .loc 0 0)],
        fun x => ⟨[.cells 3 [iS x.2], .cells 25 [iS t.op, sS t.name, .v (.slice a (Rw.encL t.args).length c)]], [], [rwR t a c]⟩,
        fun x => x.1 ≤ t.args.length ∧ 0 ≤ x.2 ∧ x.2 ≤ 400 ∧ properF t.sk depth (k + 200) = properL (Rw.skL (t.args.drop x.1)) (depth + 1) (x.2 + 200),
        fun x => t.args.length - x.1, (0, k + 1), ⟨Nat.zero_le _, by simp only; omega, by simp only; omega, by simp only [List.drop_zero]; rw [hF]; congr 1; omega⟩, ⟨rfl, rfl, rfl, rfl, rfl, rfl, trivial⟩, StLe.refl _, fun x _ => ⟨rfl, rfl⟩, ?_⟩
      rintro ⟨i, kk⟩ ⟨hi, hk0, hk4, hinv⟩
      simp only at hi hk0 hk4 hinv ⊢
      refine AtIf.mk (fun h3 => ?_) (fun h3 => ?_)
      · simp only [decide_eq_true_eq, hlen] at h3
        obtain ⟨t', ht'⟩ : ∃ t', t.args[i]? = some t' := ⟨_, List.getElem?_eq_getElem (by omega)⟩
        refine at_index ttOK 0 rfl rfl rfl rfl (by omega) (by rw [Int.toNat_natCast]; exact Rw.encL_get ht') ?_
        intro a' c' _ _
        have hw2 : IntKind.i64.wrap (depth + 1) = depth + 1 := wrap_i64 (by omega) (by omega)
        have hspec := ih t' (List.mem_of_getElem? ht') (depth + 1) kk a' c' (by omega) (by omega) hk0 hk4
        refine hspec.frame [0] rfl (by simp only [hw2]; rfl) (by simp) rfl ?_ ?_ rfl rfl ?_
        · intro p q hp
          match p, hp with
          | 0, hp => simp at hp; subst hp; exact ⟨0, rfl, rfl, rfl⟩
        · intro p hp; simp at hp; subst hp; exact List.mem_cons_of_mem _ (List.mem_cons_self ..)
        · rintro o s' ⟨rfl, rfl⟩
          refine ⟨rfl, rfl, [.cells 3 [iS ((properF t'.sk (depth + 1) (kk + 200)).2 - 200)]], rfl, ?_⟩
          have hle := properF_le t'.sk (depth + 1) (kk + 200) (by omega) (by omega)
          rw [drop_cons ht', Rw.skL, properL] at hinv
          cases hp : properF t'.sk (depth + 1) (kk + 200) with
          | mk b k' =>
            rw [hp] at hinv hle
            refine AtIf.mk (fun h4 => ?_) (fun h4 => ?_)
            · have h4 : b = false := by simpa using h4
              subst h4
              refine ret_own [.cells 3 [iS (k' - 200)]] rfl rfl rfl rfl rfl ?_
              rw [hinv]
              exact ⟨rfl, rfl⟩
            · have h4 : b = true := by simpa using h4
              subst h4
              have hw3 : IntKind.i64.wrap (i + 1) = ((i + 1 : Nat) : Int) := wrap_i64 (by omega) (by omega)
              have h6 := hle.2.2 rfl
              simp only at hle h6 hinv
              refine ⟨(i + 1, k' - 200), ⟨by omega, by simp only; omega, by simp only; omega, ?_⟩, by simp only; omega, ⟨by rw [← hw3]; rfl, rfl, rfl, rfl, rfl, rfl, trivial⟩, StLe.to _ _ rfl (by simp) rfl rfl⟩
              rw [hinv]
              simp only
              congr 1
              omega
      · simp only [decide_eq_false_iff_not, hlen] at h3
        rw [List.drop_of_length_le (by omega)] at hinv
        refine ret_own [.cells 3 [iS kk]] rfl rfl rfl rfl rfl ?_
        rw [hinv]
        have e : kk + 200 - 200 = kk := by omega
        simp only [Rw.skL, properL, e]
        exact ⟨trivial, trivial⟩

/-- A raw expression is well formed. -/
def rawOK (t : Rw) : Bool := (properF t.sk 1 200).1

theorem checkRaw_spec (t : Rw) (a : Option Addr) (c : Nat) : Pure Tryz.prog (fnS 79) [rwS t a c] [rwR t a c] (fun r out => r = iS (if rawOK t then 0 else 2) ∧ out = []) := by
  refine spec_of_body (N := 7) (m := 0) (dt := fun _ => none) [] ttOK Tryz.func79 rfl Tryz.call79 Tryz.ntmps79 rfl rfl rfl mixed (by kernel_rfl) ?_
  have hs := formedRaw_spec t 1 0 a c (by omega) (by omega) (by omega) (by omega)
  refine hs.frame [1] rfl rfl (by decide) rfl ?_ (by simp) rfl rfl ?_
  · intro p q hp
    match p, hp with
    | 0, hp => simp at hp; subst hp; exact ⟨1, rfl, rfl, rfl⟩
  rintro o s' ⟨rfl, rfl⟩
  refine ⟨rfl, rfl, [.cells 3 [iS ((properF t.sk 1 (0 + 200)).2 - 200)]], rfl, ?_⟩
  refine AtIf.mk (fun h => ?_) (fun h => ?_)
  · refine AtRet.pure [] rfl (by simp) ⟨?_, rfl⟩
    have h : (properF t.sk 1 200).1 = false := by simpa using h
    have h : rawOK t = false := h
    simp [h]
  · refine AtRet.pure [] rfl (by simp) ⟨?_, rfl⟩
    have h : (properF t.sk 1 200).1 = true := by simpa using h
    have h : rawOK t = true := h
    simp [h]

def emptyRaw (t : Rw) : Bool := ((t.op == 0) && (t.name.toList == emB.toList)) && ((t.args.length : Int) == 0)

theorem empty_spec (t : Rw) (a : Option Addr) (c : Nat) : Pure Tryz.prog (fnS 80) [rwS t a c] [rwR t a c] (fun r out => r = bS (emptyRaw t) ∧ out = []) := by
  have hlen := Rw.encL_length t.args
  refine spec_of_body (N := 17) (m := 0) (dt := fun _ => none) [] ttOK Tryz.func80 rfl Tryz.call80 Tryz.ntmps80 rfl rfl rfl mixed (by kernel_rfl) ?_
  exact AtRet.pure [] rfl (by simp) ⟨by rw [emptyRaw, ← hlen], rfl⟩
end Go.Proofs.YtogicnodmgdnbaaGreat
end

/-! RawsB -/
section
namespace Go.Proofs.YtogicnodmgdnbaaGreat
open Go.Tr Go
set_option maxRecDepth 10000

end Go.Proofs.YtogicnodmgdnbaaGreat
end

/-! Parts -/
section
namespace Go.Proofs.YtogicnodmgdnbaaGreat
open Go.Tr Go
set_option maxRecDepth 10000

inductive Pt where
  | mk (op : Int) (sign name : ByteArray) (n : Int) (raw : Rw) (parts : List Pt)

def Pt.op : Pt → Int | .mk o _ _ _ _ _ => o
def Pt.sign : Pt → ByteArray | .mk _ s _ _ _ _ => s
def Pt.name : Pt → ByteArray | .mk _ _ s _ _ _ => s
def Pt.n : Pt → Int | .mk _ _ _ n _ _ => n
def Pt.raw : Pt → Rw | .mk _ _ _ _ r _ => r
def Pt.parts : Pt → List Pt | .mk _ _ _ _ _ p => p

mutual
def Pt.enc : Pt → D
  | .mk o s m n r p => .agg [.int .i64 o, .str s, .str m, .int .i64 n, .agg [.int .i64 r.op, .str r.name, .sl 3 (Rw.encL r.args)], .sl 8 (Pt.encL p)]
def Pt.encL : List Pt → List D
  | [] => []
  | t :: ts => t.enc :: Pt.encL ts
 end
theorem Pt.encL_eq : ∀ (l : List Pt), Pt.encL l = l.map Pt.enc
  | [] => rfl
  | t :: ts => by simp only [Pt.encL, List.map_cons, Pt.encL_eq ts]
theorem Pt.encL_length (l : List Pt) : (Pt.encL l).length = l.length := by simp [Pt.encL_eq]
theorem Pt.enc_eq (t : Pt) : t.enc = .agg [.int .i64 t.op, .str t.sign, .str t.name, .int .i64 t.n, .agg [.int .i64 t.raw.op, .str t.raw.name, .sl 3 (Rw.encL t.raw.args)], .sl 8 (Pt.encL t.parts)] := by cases t; rfl
theorem Pt.encL_get {l : List Pt} {i : Nat} {t : Pt} (h : l[i]? = some t) : (Pt.encL l)[i]? = some (.agg [.int .i64 t.op, .str t.sign, .str t.name, .int .i64 t.n, .agg [.int .i64 t.raw.op, .str t.raw.name, .sl 3 (Rw.encL t.raw.args)], .sl 8 (Pt.encL t.parts)]) := by
  rw [Pt.encL_eq, List.getElem?_map, h]; cases t; rfl

theorem Pt.ind {motive : Pt → Prop} (h : ∀ t, (∀ x ∈ t.parts, motive x) → motive t) (t : Pt) : motive t := by
  induction t using Pt.rec (motive_2 := fun ts => ∀ x ∈ ts, motive x) with
  | nil => rename_i x hx; cases hx
  | cons t ts ih1 ih2 => rename_i x hx; rcases List.mem_cons.1 hx with e | e; (subst e; exact ih1); exact ih2 x e
  | mk op s m n r p ih => exact h _ ih

abbrev ptL (t : Pt) (a1 : Option Addr) (c1 : Nat) (a2 : Option Addr) (c2 : Nat) : List SV := [.v (.int .i64 t.op), .v (.string t.sign), .v (.string t.name), .v (.int .i64 t.n), .v (.int .i64 t.raw.op), .v (.string t.raw.name), .v (.slice a1 (Rw.encL t.raw.args).length c1), .v (.slice a2 (Pt.encL t.parts).length c2)]
abbrev ptS (t : Pt) (a1 : Option Addr) (c1 : Nat) (a2 : Option Addr) (c2 : Nat) : SV := .agg (ptL t a1 c1 a2 c2)
abbrev ptR (t : Pt) (a : Option Addr) (c : Nat) : Value × D := (.slice a (Pt.encL t.parts).length c, .sl 8 (Pt.encL t.parts))

abbrev plusB : ByteArray := ⟨#[43]⟩
abbrev minusB : ByteArray := ⟨#[45]⟩
abbrev starB : ByteArray := ⟨#[42]⟩
abbrev colonB : ByteArray := ⟨#[58]⟩
abbrev barB : ByteArray := ⟨#[124]⟩
abbrev equB : ByteArray := ⟨#[61]⟩

/-- A list in braces that would be read as a binder. -/
def ambig : List Pt → Bool
  | p :: q :: _ => (p.op == 1 && q.op == 8) && (q.sign.toList == colonB.toList)
  | _ => false

/-- What is asked of a part by its Op alone. -/
def swOK (t : Pt) : Bool :=
  if t.op = 1 then true
  else if t.op = 2 then hasS t.sign [plusB, minusB, starB]
  else if t.op = 3 then !(decide (t.n < 0) || decide (t.n > 10000))
  else if t.op = 8 then hasS t.sign [colonB, barB, equB]
  else if t.op = 4 ∨ t.op = 7 then rawOK t.raw
  else if t.op = 5 then !ambig t.parts
  else decide (t.op = 6)
def wName (t : Pt) : ByteArray := if t.op = 1 ∨ t.op = 2 ∨ t.op = 7 then t.name else emB
def wSign (t : Pt) : ByteArray := if t.op = 2 ∨ t.op = 8 then t.sign else emB
def wN (t : Pt) : Int := if t.op = 3 then t.n else 0
def isNm (t : Pt) : Bool := (t.op == 1 || t.op == 2) || t.op == 7
def isRw (t : Pt) : Bool := t.op == 4 || t.op == 7
def isLs (t : Pt) : Bool := t.op == 5 || t.op == 6

/-- A part is built as parts are, but for what is in it. -/
def okPt (t : Pt) : Bool := swOK t && (!isNm t || namedF t.name) && ((((t.name.toList == (wName t).toList && t.sign.toList == (wSign t).toList) && t.n == wN t) && (isRw t || emptyRaw t.raw)) && (isLs t || ((Pt.encL t.parts).length : Int) == 0))

mutual
/-- The parts in a part, as a term. -/
def Pt.sk : Pt → Tm
  | .mk o s m n r p => .mk (if okPt (.mk o s m n r p) then 4 else 0) 1 0 (Pt.skL p)
def Pt.skL : List Pt → List Tm
  | [] => []
  | t :: ts => t.sk :: Pt.skL ts
 end
theorem Pt.sk_eq (t : Pt) : t.sk = .mk (if okPt t then 4 else 0) 1 0 (Pt.skL t.parts) := by cases t; rfl
theorem skOK (b : Bool) (m : Nat) : okNode (if b then 4 else 0) 1 0 m = b := by cases b <;> simp [okNode]
theorem okPt_leaf {t : Pt} (h : okPt t = true) (hl : isLs t = false) : t.parts = [] := by
  simp only [okPt, hl, Bool.and_eq_true, Bool.false_or, beq_iff_eq] at h
  have := h.2.2
  rw [Pt.encL_length] at this
  exact List.eq_nil_of_length_eq_zero (by omega)

theorem whole_spec (t : Pt) : ∀ (depth k : Int) (a1 : Option Addr) (c1 : Nat) (a2 : Option Addr) (c2 : Nat), 0 ≤ depth → depth ≤ 41 → 0 ≤ k → k ≤ 400 →
    Meets Tryz.prog (fnS 81) [ptS t a1 c1 a2 c2, iS depth, .loc 0 0] ⟨[.cells 3 [iS k]], [], [rwR t.raw a1 c1, ptR t a2 c2]⟩
      (fun o S' => ∃ kk, o = .ret (bS (properF t.sk depth (k + 200)).1) ∧ ((properF t.sk depth (k + 200)).1 = true → kk = (properF t.sk depth (k + 200)).2 - 200) ∧ S' = ⟨[.cells 3 [iS kk]], [], []⟩) := by
  induction t using Pt.ind with
  | h t ih =>
  intro depth k a1 c1 a2 c2 hd1 hd2 hk1 hk2
  refine Meets.of_ok fun hok => ?_
  have hB : (Pt.encL t.parts).length ≤ 1152921504606846976 := (hok _ (List.mem_cons_of_mem _ (List.mem_cons_self ..))).1
  have hlen := Pt.encL_length t.parts
  refine spec_of_body (N := 205) (m := 1) (dt := drawsOf [(10, .node [0, 1, 2, 3, 4] [(5, .node [6] [(7, .leaf [])])], [7], [2])]) [5, 29, 37] ttOK Tryz.func81 rfl Tryz.call81 Tryz.ntmps81 rfl rfl rfl mixed (by kernel_rfl) ?_
  have hw : IntKind.i64.wrap (k + 1) = k + 1 := wrap_i64 (by omega) (by omega)
  have hF : properF t.sk depth (k + 200) = if 600 < k + 200 + 1 ∨ 40 < depth then (false, k + 200 + 1) else if okPt t = true then properL (Pt.skL t.parts) (depth + 1) (k + 200 + 1) else (false, k + 200 + 1) := by
    rw [Pt.sk_eq, properF_eq]
    simp only [Tm.op, Tm.hd, Tm.n, Tm.args, skOK]
  have bad : ∀ kk, (properF t.sk depth (k + 200)).1 = false → ∃ kk', Out.ret (bS false) = .ret (bS (properF t.sk depth (k + 200)).1) ∧ ((properF t.sk depth (k + 200)).1 = true → kk' = (properF t.sk depth (k + 200)).2 - 200) ∧ (⟨[.cells 3 [iS kk]], [], []⟩ : St) = ⟨[.cells 3 [iS kk']], [], []⟩ :=
    fun kk h => ⟨kk, by rw [h], by rw [h]; simp, rfl⟩
  refine AtIf.mk ?_ ?_
  · intro h
    rw [hw] at h
    refine ret_own [.cells 3 [iS (k + 1)]] (by simp only [hw]; rfl) rfl rfl rfl rfl (bad _ ?_)
    have h : 400 < k + 1 ∨ 40 < depth := by simpa using h
    rw [hF, if_pos (by omega)]
  intro h
  rw [hw] at h
  have hno : ¬ (400 < k + 1 ∨ 40 < depth) := by simpa using h
  rw [if_neg (by omega)] at hF
  have hbad : okPt t = false → (properF t.sk depth (k + 200)).1 = false := fun h => by rw [hF, h]; rfl
  have hsw : swOK t = false → okPt t = false := fun h => by rw [okPt, h]; rfl
  refine AtCut.mk ⟨Int, fun _ => [(3, .loc 1 0), (7, .loc 2 0), (1, iS depth), (2, .loc 0 0)],
    fun kk => ⟨[.cells 3 [iS kk], .cells 74 (ptL t a1 c1 a2 c2), .cells 74 [iS t.op, sS (wSign t), sS (wName t), iS (wN t), iS 0, sS emB, .v (.slice none 0 0), .v (.slice none 0 0)]], [], [rwR t.raw a1 c1, ptR t a2 c2]⟩,
    fun kk => swOK t = true ∧ (isLs t = true → properL (Pt.skL t.parts) (depth + 1) (k + 200 + 1) = (true, kk + 200)) ∧ (isLs t = false → kk = k + 1), fun _ _ => ⟨rfl, rfl⟩, ?_, ?_⟩
  · rw [hw]
    have fin : ∀ {m s : ByteArray} {n kk : Int} {env : Env} {S : St}, m = wName t → s = wSign t → n = wN t → swOK t = true → (isLs t = true → properL (Pt.skL t.parts) (depth + 1) (k + 200 + 1) = (true, kk + 200)) → (isLs t = false → kk = k + 1) →
        envLe env [(3, .loc 1 0), (7, .loc 2 0), (1, iS depth), (2, .loc 0 0)] →
        StLe S ⟨[.cells 3 [iS kk], .cells 74 (ptL t a1 c1 a2 c2), .cells 74 [iS t.op, sS s, sS m, iS n, iS 0, sS emB, .v (.slice none 0 0), .v (.slice none 0 0)]], [], [rwR t.raw a1 c1, ptR t a2 c2]⟩ →
        ∃ kk, (swOK t = true ∧ (isLs t = true → properL (Pt.skL t.parts) (depth + 1) (k + 200 + 1) = (true, kk + 200)) ∧ (isLs t = false → kk = k + 1)) ∧ envLe env [(3, .loc 1 0), (7, .loc 2 0), (1, iS depth), (2, .loc 0 0)] ∧
          StLe S ⟨[.cells 3 [iS kk], .cells 74 (ptL t a1 c1 a2 c2), .cells 74 [iS t.op, sS (wSign t), sS (wName t), iS (wN t), iS 0, sS emB, .v (.slice none 0 0), .v (.slice none 0 0)]], [], [rwR t.raw a1 c1, ptR t a2 c2]⟩ := by
      rintro m s n kk env S rfl rfl rfl h1 h2 h3 h4 h5
      exact ⟨kk, ⟨h1, h2, h3⟩, h4, h5⟩
    have hop : t.op = 1 ∨ t.op = 2 ∨ t.op = 3 ∨ t.op = 8 ∨ t.op = 4 ∨ t.op = 7 ∨ t.op = 5 ∨ t.op = 6 ∨ (t.op ≠ 1 ∧ t.op ≠ 2 ∧ t.op ≠ 3 ∧ t.op ≠ 4 ∧ t.op ≠ 5 ∧ t.op ≠ 6 ∧ t.op ≠ 7 ∧ t.op ≠ 8) := by omega
    rcases hop with ho | ho | ho | ho | ho | ho | ho | ho | ⟨h1, h2, h3, h4, h5, h6, h7, h8⟩
    · repeat (refine AtIf.mk (fun h => ?_) (fun h => ?_) <;> first | (exfalso; simp [ho] at h; done) | skip)
      exact fin (m := t.name) (s := emB) (n := 0) (kk := k + 1) (by simp [wName, ho]) (by simp [wSign, ho]) (by simp [wN, ho]) (by simp [swOK, ho]) (by simp [isLs, ho]) (fun _ => rfl) ⟨rfl, rfl, rfl, rfl, trivial⟩ (StLe.to _ _ rfl (by simp) rfl rfl)
    · repeat (refine AtIf.mk (fun h => ?_) (fun h => ?_) <;> first | (exfalso; simp [ho] at h; done) | skip)
      refine ⟨fun _ _ h => h, ?_⟩
      refine at_build ttOK 16 [.str plusB, .str minusB, .str starB] rfl (by kernel_rfl) ⟨⟨rfl, rfl, rfl, rfl⟩, ⟨rfl, rfl, rfl, rfl⟩, ⟨rfl, rfl, rfl, rfl⟩, trivial⟩ rfl (by decide) (by decide) ?_
      intro a
      refine (containsS_spec [plusB, minusB, starB] t.sign a 3).at (by simp) rfl rfl ?_
      rintro r out ⟨rfl, rfl⟩
      have hs : swOK t = hasS t.sign [plusB, minusB, starB] := by simp [swOK, ho]
      refine AtIf.mk (fun h => ?_) (fun h => ?_)
      · have h : hasS t.sign [plusB, minusB, starB] = false := by simpa using h
        refine ret_own [.cells 3 [iS (k + 1)]] rfl rfl rfl rfl rfl (bad _ (hbad (hsw (by rw [hs, h]))))
      · have h : hasS t.sign [plusB, minusB, starB] = true := by simpa using h
        exact fin (m := t.name) (s := t.sign) (n := 0) (kk := k + 1) (by simp [wName, ho]) (by simp [wSign, ho]) (by simp [wN, ho]) (by rw [hs, h]) (by simp [isLs, ho]) (fun _ => rfl) ⟨rfl, rfl, rfl, rfl, trivial⟩ (StLe.to _ _ rfl (by simp) rfl rfl)
    · repeat (refine AtIf.mk (fun h => ?_) (fun h => ?_) <;> first | (exfalso; simp [ho] at h; done) | skip)
      · have h : (decide (t.n < 0) || decide (t.n > 10000)) = true := by assumption
        refine ret_own [.cells 3 [iS (k + 1)]] rfl rfl rfl rfl rfl (bad _ (hbad (hsw (by simp [swOK, ho, h]))))
      · have h : (decide (t.n < 0) || decide (t.n > 10000)) = false := by assumption
        exact fin (m := emB) (s := emB) (n := t.n) (kk := k + 1) (by simp [wName, ho]) (by simp [wSign, ho]) (by simp [wN, ho]) (by simp [swOK, ho, h]) (by simp [isLs, ho]) (fun _ => rfl) ⟨rfl, rfl, rfl, rfl, trivial⟩ (StLe.to _ _ rfl (by simp) rfl rfl)
    · repeat (refine AtIf.mk (fun h => ?_) (fun h => ?_) <;> first | (exfalso; simp [ho] at h; done) | skip)
      refine at_build ttOK 16 [.str colonB, .str barB, .str equB] rfl (by kernel_rfl) ⟨⟨rfl, rfl, rfl, rfl⟩, ⟨rfl, rfl, rfl, rfl⟩, ⟨rfl, rfl, rfl, rfl⟩, trivial⟩ rfl (by decide) (by decide) ?_
      intro a
      refine (containsS_spec [colonB, barB, equB] t.sign a 3).at (by simp) rfl rfl ?_
      rintro r out ⟨rfl, rfl⟩
      have hs : swOK t = hasS t.sign [colonB, barB, equB] := by simp [swOK, ho]
      refine AtIf.mk (fun h => ?_) (fun h => ?_)
      · have h : hasS t.sign [colonB, barB, equB] = false := by simpa using h
        refine ret_own [.cells 3 [iS (k + 1)]] rfl rfl rfl rfl rfl (bad _ (hbad (hsw (by rw [hs, h]))))
      · have h : hasS t.sign [colonB, barB, equB] = true := by simpa using h
        exact fin (m := emB) (s := t.sign) (n := 0) (kk := k + 1) (by simp [wName, ho]) (by simp [wSign, ho]) (by simp [wN, ho]) (by rw [hs, h]) (by simp [isLs, ho]) (fun _ => rfl) ⟨rfl, rfl, rfl, rfl, trivial⟩ (StLe.to _ _ rfl (by simp) rfl rfl)
    · repeat (refine AtIf.mk (fun h => ?_) (fun h => ?_) <;> first | (exfalso; simp [ho] at h; done) | skip)
      refine (checkRaw_spec t.raw a1 c1).at (by simp) rfl rfl ?_
      rintro r out ⟨rfl, rfl⟩
      have hs : swOK t = rawOK t.raw := by simp [swOK, ho]
      cases hr : rawOK t.raw with
      | false =>
        repeat (refine AtIf.mk (fun h => ?_) (fun h => ?_) <;> first | (exfalso; simp at h; done) | skip)
        refine ret_own [.cells 3 [iS (k + 1)]] rfl rfl rfl rfl rfl (bad _ (hbad (hsw (by rw [hs, hr]))))
      | true =>
        repeat (refine AtIf.mk (fun h => ?_) (fun h => ?_) <;> first | (exfalso; simp [ho] at h; done) | skip)
        exact fin (m := emB) (s := emB) (n := 0) (kk := k + 1) (by simp [wName, ho]) (by simp [wSign, ho]) (by simp [wN, ho]) (by rw [hs, hr]) (by simp [isLs, ho]) (fun _ => rfl) ⟨rfl, rfl, rfl, rfl, trivial⟩ (StLe.to _ _ rfl (by simp) rfl rfl)
    · repeat (refine AtIf.mk (fun h => ?_) (fun h => ?_) <;> first | (exfalso; simp [ho] at h; done) | skip)
      refine (checkRaw_spec t.raw a1 c1).at (by simp) rfl rfl ?_
      rintro r out ⟨rfl, rfl⟩
      have hs : swOK t = rawOK t.raw := by simp [swOK, ho]
      cases hr : rawOK t.raw with
      | false =>
        repeat (refine AtIf.mk (fun h => ?_) (fun h => ?_) <;> first | (exfalso; simp at h; done) | skip)
        refine ret_own [.cells 3 [iS (k + 1)]] rfl rfl rfl rfl rfl (bad _ (hbad (hsw (by rw [hs, hr]))))
      | true =>
        repeat (refine AtIf.mk (fun h => ?_) (fun h => ?_) <;> first | (exfalso; simp [ho] at h; done) | skip)
        exact fin (m := t.name) (s := emB) (n := 0) (kk := k + 1) (by simp [wName, ho]) (by simp [wSign, ho]) (by simp [wN, ho]) (by rw [hs, hr]) (by simp [isLs, ho]) (fun _ => rfl) ⟨rfl, rfl, rfl, rfl, trivial⟩ (StLe.to _ _ rfl (by simp) rfl rfl)
    · repeat (refine AtIf.mk (fun h => ?_) (fun h => ?_) <;> first | (exfalso; simp [ho] at h; done) | skip)
      refine AtCut.mk ⟨Unit, fun _ => [(3, .loc 1 0), (7, .loc 2 0), (1, iS depth), (2, .loc 0 0)],
        fun _ => ⟨[.cells 3 [iS (k + 1)], .cells 74 (ptL t a1 c1 a2 c2), .cells 74 [iS t.op, sS emB, sS emB, iS 0, iS 0, sS emB, .v (.slice none 0 0), .v (.slice none 0 0)]], [], [rwR t.raw a1 c1, ptR t a2 c2]⟩,
        fun _ => ambig t.parts = false, fun _ _ => ⟨rfl, rfl⟩, ?_, ?_⟩
      · have amb : ∀ {b}, b = ambig t.parts → b = true → (properF t.sk depth (k + 200)).1 = false := fun h1 h2 => hbad (hsw (by rw [h1] at h2; simp [swOK, ho, h2]))
        have he : ∀ {env : Env} {S : St}, ambig t.parts = false → envLe env [(3, .loc 1 0), (7, .loc 2 0), (1, iS depth), (2, .loc 0 0)] → StLe S ⟨[.cells 3 [iS (k + 1)], .cells 74 (ptL t a1 c1 a2 c2), .cells 74 [iS t.op, sS emB, sS emB, iS 0, iS 0, sS emB, .v (.slice none 0 0), .v (.slice none 0 0)]], [], [rwR t.raw a1 c1, ptR t a2 c2]⟩ →
            ∃ x : Unit, ambig t.parts = false ∧ envLe env [(3, .loc 1 0), (7, .loc 2 0), (1, iS depth), (2, .loc 0 0)] ∧ StLe S ⟨[.cells 3 [iS (k + 1)], .cells 74 (ptL t a1 c1 a2 c2), .cells 74 [iS t.op, sS emB, sS emB, iS 0, iS 0, sS emB, .v (.slice none 0 0), .v (.slice none 0 0)]], [], [rwR t.raw a1 c1, ptR t a2 c2]⟩ := fun h1 h2 h3 => ⟨(), h1, h2, h3⟩
        refine AtGuard.mk (fun h1 => ?_) (fun h1 => ?_)
        · have h1 : ((t.op == 5) && decide (((Pt.encL t.parts).length : Int) > 1)) = true := h1
          simp only [Bool.and_eq_true, decide_eq_true_eq, hlen] at h1
          obtain ⟨p, q, r, hpq⟩ : ∃ p q r, t.parts = p :: q :: r := by
            match hp : t.parts, h1.2 with
            | p :: q :: r, _ => exact ⟨p, q, r, rfl⟩
            | [], h => simp at h
            | [_], h => simp at h
          have ham : ambig t.parts = ((p.op == 1 && q.op == 8) && (q.sign.toList == colonB.toList)) := by rw [hpq]; rfl
          refine at_index ttOK 1 rfl rfl rfl rfl (by decide) (Pt.encL_get (t := p) (by rw [hpq]; rfl)) ?_
          intro b1 d1 _ _ b2 d2 _ _
          refine AtGuard.mk (fun h2 => ?_) (fun h2 => ?_)
          · have h2 : (p.op == 1) = true := h2
            refine at_index ttOK 1 rfl rfl rfl rfl (by decide) (Pt.encL_get (t := q) (by rw [hpq]; rfl)) ?_
            intro b3 d3 _ _ b4 d4 _ _
            refine AtGuard.mk (fun h3 => ?_) (fun h3 => ?_)
            · have h3 : (q.op == 8) = true := h3
              refine at_index ttOK 1 rfl rfl rfl rfl (by decide) (Pt.encL_get (t := q) (by rw [hpq]; rfl)) ?_
              intro b5 d5 _ _ b6 d6 _ _
              rw [h2, h3, Bool.true_and, Bool.true_and] at ham
              refine AtIf.mk (fun h => ?_) (fun h => ?_)
              · exact ret_own [.cells 3 [iS (k + 1)]] rfl rfl rfl rfl rfl (bad _ (amb ham.symm h))
              · exact he (ham.trans h) ⟨rfl, rfl, rfl, rfl, trivial⟩ (StLe.to _ _ rfl (by simp) rfl rfl)
            · have h3 : (q.op == 8) = false := h3
              refine AtIf.mk (fun h => by cases h) (fun _ => ?_)
              exact he (by rw [ham, h3, Bool.and_false, Bool.false_and]) ⟨rfl, rfl, rfl, rfl, trivial⟩ (StLe.to _ _ rfl (by simp) rfl rfl)
          · have h2 : (p.op == 1) = false := h2
            refine AtGuard.mk (fun h => by cases h) (fun _ => ?_)
            refine AtIf.mk (fun h => by cases h) (fun _ => ?_)
            exact he (by rw [ham, h2, Bool.false_and, Bool.false_and]) ⟨rfl, rfl, rfl, rfl, trivial⟩ (StLe.to _ _ rfl (by simp) rfl rfl)
        · have h1 : ((t.op == 5) && decide (((Pt.encL t.parts).length : Int) > 1)) = false := h1
          refine AtGuard.mk (fun h => by cases h) (fun _ => ?_)
          refine AtGuard.mk (fun h => by cases h) (fun _ => ?_)
          refine AtIf.mk (fun h => by cases h) (fun _ => ?_)
          refine he ?_ ⟨rfl, rfl, rfl, rfl, trivial⟩ (StLe.to _ _ rfl (by simp) rfl rfl)
          simp only [ho, hlen] at h1
          match hp : t.parts, h1 with
          | p :: q :: r, h => simp at h; omega
          | [], _ => rfl
          | [_], _ => rfl
      · skip
        intro _ hamb
        refine AtLoop.mk ⟨Nat × Int, fun x => [(123, iS x.1), (122, iS (Pt.encL t.parts).length), (121, .v (.slice a2 (Pt.encL t.parts).length c2)), (3, .loc 1 0), (7, .loc 2 0), (1, iS depth), (2, .loc 0 0)],
          fun x => ⟨[.cells 3 [iS x.2], .cells 74 (ptL t a1 c1 a2 c2), .cells 74 [iS t.op, sS emB, sS emB, iS 0, iS 0, sS emB, .v (.slice none 0 0), .v (.slice none 0 0)]], [], [rwR t.raw a1 c1, ptR t a2 c2]⟩,
          fun x => x.1 ≤ t.parts.length ∧ 0 ≤ x.2 ∧ x.2 ≤ 400 ∧ properL (Pt.skL t.parts) (depth + 1) (k + 200 + 1) = properL (Pt.skL (t.parts.drop x.1)) (depth + 1) (x.2 + 200),
          fun x => t.parts.length - x.1, (0, k + 1), ⟨Nat.zero_le _, by simp only; omega, by simp only; omega, by simp only [List.drop_zero]; congr 1; omega⟩, ⟨rfl, rfl, rfl, rfl, rfl, rfl, rfl, trivial⟩, StLe.refl _, fun x _ => ⟨rfl, rfl⟩, ?_⟩
        rintro ⟨i, kk⟩ ⟨hi, hk0, hk4, hinv⟩
        simp only at hi hk0 hk4 hinv ⊢
        refine AtIf.mk (fun h3 => ?_) (fun h3 => ?_)
        · simp only [decide_eq_true_eq, hlen] at h3
          obtain ⟨t', ht'⟩ : ∃ t', t.parts[i]? = some t' := ⟨_, List.getElem?_eq_getElem (by omega)⟩
          refine at_index ttOK 1 rfl rfl rfl rfl (by omega) (by rw [Int.toNat_natCast]; exact Pt.encL_get ht') ?_
          intro b1 d1 _ _ b2 d2 _ _
          have hw2 : IntKind.i64.wrap (depth + 1) = depth + 1 := wrap_i64 (by omega) (by omega)
          have hspec := ih t' (List.mem_of_getElem? ht') (depth + 1) kk b1 d1 b2 d2 (by omega) (by omega) hk0 hk4
          refine hspec.frame [0] rfl (by simp only [hw2]; rfl) (by simp) rfl ?_ ?_ rfl rfl ?_
          · intro p q hp
            match p, hp with
            | 0, hp => simp at hp; subst hp; exact ⟨0, rfl, rfl, rfl⟩
          · intro p hp; simp only [List.mem_cons, List.not_mem_nil, or_false] at hp ⊢; rcases hp with rfl | rfl <;> simp
          · rintro o s' ⟨kk', rfl, hkk, rfl⟩
            refine ⟨rfl, rfl, [.cells 3 [iS kk']], rfl, ?_⟩
            have hle := properF_le t'.sk (depth + 1) (kk + 200) (by omega) (by omega)
            rw [drop_cons ht', Pt.skL, properL] at hinv
            cases hp : properF t'.sk (depth + 1) (kk + 200) with
            | mk b k' =>
              rw [hp] at hinv hle hkk
              refine AtIf.mk (fun h4 => ?_) (fun h4 => ?_)
              · have h4 : b = false := by simpa using h4
                subst h4
                refine ret_own [.cells 3 [iS kk']] rfl rfl rfl rfl rfl (bad _ ?_)
                rw [hF]
                split
                · rw [hinv]
                · rfl
              · have h4 : b = true := by simpa using h4
                subst h4
                have hkk := hkk rfl
                have hw3 : IntKind.i64.wrap (i + 1) = ((i + 1 : Nat) : Int) := wrap_i64 (by omega) (by omega)
                have h6 := hle.2.2 rfl
                simp only at hle h6 hinv hkk
                refine ⟨(i + 1, kk'), ⟨by omega, by simp only; omega, by simp only; omega, ?_⟩, by simp only; omega, ⟨by rw [← hw3]; rfl, rfl, rfl, rfl, rfl, rfl, rfl, trivial⟩, StLe.to _ _ rfl (by simp) rfl rfl⟩
                rw [hinv]
                simp only
                congr 1
                omega
        · simp only [decide_eq_false_iff_not, hlen] at h3
          rw [List.drop_of_length_le (by omega), Pt.skL, properL] at hinv
          exact fin (m := emB) (s := emB) (n := 0) (kk := kk) (by simp [wName, ho]) (by simp [wSign, ho]) (by simp [wN, ho]) (by simp [swOK, ho, hamb]) (fun _ => hinv) (by simp [isLs, ho]) ⟨rfl, rfl, rfl, rfl, trivial⟩ (StLe.to _ _ rfl (by simp) rfl rfl)
    · repeat (refine AtIf.mk (fun h => ?_) (fun h => ?_) <;> first | (exfalso; simp [ho] at h; done) | skip)
      refine AtCut.mk ⟨Unit, fun _ => [(3, .loc 1 0), (7, .loc 2 0), (1, iS depth), (2, .loc 0 0)],
        fun _ => ⟨[.cells 3 [iS (k + 1)], .cells 74 (ptL t a1 c1 a2 c2), .cells 74 [iS t.op, sS emB, sS emB, iS 0, iS 0, sS emB, .v (.slice none 0 0), .v (.slice none 0 0)]], [], [rwR t.raw a1 c1, ptR t a2 c2]⟩,
        fun _ => True, fun _ _ => ⟨rfl, rfl⟩, ?_, ?_⟩
      · refine AtGuard.mk (fun h => ?_) (fun _ => ?_)
        · exfalso
          have h : ((t.op == 5) && decide (((Pt.encL t.parts).length : Int) > 1)) = true := h
          simp [ho] at h
        refine AtGuard.mk (fun h => by cases h) (fun _ => ?_)
        refine AtGuard.mk (fun h => by cases h) (fun _ => ?_)
        refine AtIf.mk (fun h => by cases h) (fun _ => ?_)
        exact ⟨(), trivial, ⟨rfl, rfl, rfl, rfl, trivial⟩, StLe.to _ _ rfl (by simp) rfl rfl⟩
      · skip
        intro _ _
        refine AtLoop.mk ⟨Nat × Int, fun x => [(123, iS x.1), (122, iS (Pt.encL t.parts).length), (121, .v (.slice a2 (Pt.encL t.parts).length c2)), (3, .loc 1 0), (7, .loc 2 0), (1, iS depth), (2, .loc 0 0)],
          fun x => ⟨[.cells 3 [iS x.2], .cells 74 (ptL t a1 c1 a2 c2), .cells 74 [iS t.op, sS emB, sS emB, iS 0, iS 0, sS emB, .v (.slice none 0 0), .v (.slice none 0 0)]], [], [rwR t.raw a1 c1, ptR t a2 c2]⟩,
          fun x => x.1 ≤ t.parts.length ∧ 0 ≤ x.2 ∧ x.2 ≤ 400 ∧ properL (Pt.skL t.parts) (depth + 1) (k + 200 + 1) = properL (Pt.skL (t.parts.drop x.1)) (depth + 1) (x.2 + 200),
          fun x => t.parts.length - x.1, (0, k + 1), ⟨Nat.zero_le _, by simp only; omega, by simp only; omega, by simp only [List.drop_zero]; congr 1; omega⟩, ⟨rfl, rfl, rfl, rfl, rfl, rfl, rfl, trivial⟩, StLe.refl _, fun x _ => ⟨rfl, rfl⟩, ?_⟩
        rintro ⟨i, kk⟩ ⟨hi, hk0, hk4, hinv⟩
        simp only at hi hk0 hk4 hinv ⊢
        refine AtIf.mk (fun h3 => ?_) (fun h3 => ?_)
        · simp only [decide_eq_true_eq, hlen] at h3
          obtain ⟨t', ht'⟩ : ∃ t', t.parts[i]? = some t' := ⟨_, List.getElem?_eq_getElem (by omega)⟩
          refine at_index ttOK 1 rfl rfl rfl rfl (by omega) (by rw [Int.toNat_natCast]; exact Pt.encL_get ht') ?_
          intro b1 d1 _ _ b2 d2 _ _
          have hw2 : IntKind.i64.wrap (depth + 1) = depth + 1 := wrap_i64 (by omega) (by omega)
          have hspec := ih t' (List.mem_of_getElem? ht') (depth + 1) kk b1 d1 b2 d2 (by omega) (by omega) hk0 hk4
          refine hspec.frame [0] rfl (by simp only [hw2]; rfl) (by simp) rfl ?_ ?_ rfl rfl ?_
          · intro p q hp
            match p, hp with
            | 0, hp => simp at hp; subst hp; exact ⟨0, rfl, rfl, rfl⟩
          · intro p hp; simp only [List.mem_cons, List.not_mem_nil, or_false] at hp ⊢; rcases hp with rfl | rfl <;> simp
          · rintro o s' ⟨kk', rfl, hkk, rfl⟩
            refine ⟨rfl, rfl, [.cells 3 [iS kk']], rfl, ?_⟩
            have hle := properF_le t'.sk (depth + 1) (kk + 200) (by omega) (by omega)
            rw [drop_cons ht', Pt.skL, properL] at hinv
            cases hp : properF t'.sk (depth + 1) (kk + 200) with
            | mk b k' =>
              rw [hp] at hinv hle hkk
              refine AtIf.mk (fun h4 => ?_) (fun h4 => ?_)
              · have h4 : b = false := by simpa using h4
                subst h4
                refine ret_own [.cells 3 [iS kk']] rfl rfl rfl rfl rfl (bad _ ?_)
                rw [hF]
                split
                · rw [hinv]
                · rfl
              · have h4 : b = true := by simpa using h4
                subst h4
                have hkk := hkk rfl
                have hw3 : IntKind.i64.wrap (i + 1) = ((i + 1 : Nat) : Int) := wrap_i64 (by omega) (by omega)
                have h6 := hle.2.2 rfl
                simp only at hle h6 hinv hkk
                refine ⟨(i + 1, kk'), ⟨by omega, by simp only; omega, by simp only; omega, ?_⟩, by simp only; omega, ⟨by rw [← hw3]; rfl, rfl, rfl, rfl, rfl, rfl, rfl, trivial⟩, StLe.to _ _ rfl (by simp) rfl rfl⟩
                rw [hinv]
                simp only
                congr 1
                omega
        · simp only [decide_eq_false_iff_not, hlen] at h3
          rw [List.drop_of_length_le (by omega), Pt.skL, properL] at hinv
          exact fin (m := emB) (s := emB) (n := 0) (kk := kk) (by simp [wName, ho]) (by simp [wSign, ho]) (by simp [wN, ho]) (by simp [swOK, ho]) (fun _ => hinv) (by simp [isLs, ho]) ⟨rfl, rfl, rfl, rfl, trivial⟩ (StLe.to _ _ rfl (by simp) rfl rfl)
    · repeat (refine AtIf.mk (fun h => ?_) (fun h => ?_) <;> first | (exfalso; simp [h1, h2, h3, h4, h5, h6, h7, h8] at h; done) | skip)
      exact ret_own [.cells 3 [iS (k + 1)]] rfl rfl rfl rfl rfl (bad _ (hbad (hsw (by simp [swOK, h1, h2, h3, h4, h5, h6, h7, h8]))))
  · rintro kk ⟨hs, hl1, hl2⟩
    have hok' : okPt t = ((!isNm t || namedF t.name) && ((((t.name.toList == (wName t).toList && t.sign.toList == (wSign t).toList) && t.n == wN t) && (isRw t || emptyRaw t.raw)) && (isLs t || ((Pt.encL t.parts).length : Int) == 0))) := by rw [okPt, hs, Bool.true_and]
    have fin : ∀ b, b = okPt t → ∃ kk', Out.ret (bS b) = .ret (bS (properF t.sk depth (k + 200)).1) ∧ ((properF t.sk depth (k + 200)).1 = true → kk' = (properF t.sk depth (k + 200)).2 - 200) ∧ (⟨[.cells 3 [iS kk]], [], []⟩ : St) = ⟨[.cells 3 [iS kk']], [], []⟩ := by
      rintro b rfl
      cases hb : okPt t with
      | false => exact bad kk (hbad hb)
      | true =>
        rw [hb, if_pos rfl] at hF
        cases hls : isLs t with
        | true =>
          have := hl1 hls
          rw [hF, this]
          exact ⟨kk, rfl, fun _ => by simp only; omega, rfl⟩
        | false =>
          have h1 := okPt_leaf hb hls
          have h2 := hl2 hls
          rw [hF, h1, Pt.skL, properL]
          exact ⟨kk, rfl, fun _ => by simp only; omega, rfl⟩
    refine AtCut.mk ⟨Unit, fun _ => [(3, .loc 1 0), (7, .loc 2 0), (1, iS depth), (2, .loc 0 0)],
      fun _ => ⟨[.cells 3 [iS kk], .cells 74 (ptL t a1 c1 a2 c2), .cells 74 [iS t.op, sS (wSign t), sS (wName t), iS (wN t), iS 0, sS emB, .v (.slice none 0 0), .v (.slice none 0 0)]], [], [rwR t.raw a1 c1, ptR t a2 c2]⟩,
      fun _ => (!isNm t || namedF t.name) = true, fun _ _ => ⟨rfl, rfl⟩, ?_, ?_⟩
    · refine AtGuard.mk (fun h1 => ?_) (fun h1 => ?_)
      · have h1 : isNm t = true := h1
        refine (named_spec t.name).at (by simp) rfl rfl ?_
        rintro r out ⟨rfl, rfl⟩
        refine AtIf.mk (fun h => ?_) (fun h => ?_)
        · have h : namedF t.name = false := by simpa using h
          exact ret_own [.cells 3 [iS kk]] rfl rfl rfl rfl rfl (fin false (by rw [hok', h1, h]; rfl))
        · have h : namedF t.name = true := by simpa using h
          exact ⟨(), by rw [h, Bool.or_true], ⟨rfl, rfl, rfl, rfl, trivial⟩, StLe.to _ _ rfl (by simp) rfl rfl⟩
      · have h1 : isNm t = false := h1
        refine AtIf.mk (fun h => by cases h) (fun _ => ?_)
        exact ⟨(), by rw [h1]; rfl, ⟨rfl, rfl, rfl, rfl, trivial⟩, StLe.to _ _ rfl (by simp) rfl rfl⟩
    intro _ hnm
    rw [hnm, Bool.true_and] at hok'
    refine AtGuard.mk (fun h1 => ?_) (fun h1 => ?_)
    · have h1 : ((t.name.toList == (wName t).toList && t.sign.toList == (wSign t).toList) && t.n == wN t) = true := h1
      rw [h1, Bool.true_and] at hok'
      refine AtGuard.mk (fun h2 => ?_) (fun h2 => ?_)
      · have h2 : isRw t = false := h2
        refine (empty_spec t.raw a1 c1).at (by simp) rfl rfl ?_
        rintro r out ⟨rfl, rfl⟩
        rw [h2, Bool.false_or] at hok'
        refine ret_own [.cells 3 [iS kk]] rfl rfl rfl rfl rfl (fin _ ?_)
        rw [hok']; rfl
      · have h2 : isRw t = true := h2
        rw [h2, Bool.true_or, Bool.true_and] at hok'
        refine ret_own [.cells 3 [iS kk]] rfl rfl rfl rfl rfl (fin _ ?_)
        rw [hok']; rfl
    · have h1 : ((t.name.toList == (wName t).toList && t.sign.toList == (wSign t).toList) && t.n == wN t) = false := h1
      rw [h1] at hok'
      refine ret_own [.cells 3 [iS kk]] rfl rfl rfl rfl rfl (fin _ ?_)
      rw [hok']; rfl
end Go.Proofs.YtogicnodmgdnbaaGreat
end

/-! PartsB -/
section
namespace Go.Proofs.YtogicnodmgdnbaaGreat
open Go.Tr Go
set_option maxRecDepth 10000


end Go.Proofs.YtogicnodmgdnbaaGreat
end

/-! Items -/
section
namespace Go.Proofs.YtogicnodmgdnbaaGreat
open Go.Tr Go
set_option maxRecDepth 10000

structure It where
  word : ByteArray
  name : ByteArray
  raw : Rw
  parts : List Pt

abbrev itL (t : It) (a1 : Option Addr) (c1 : Nat) (a2 : Option Addr) (c2 : Nat) : List SV := [.v (.string t.word), .v (.string t.name), .v (.int .i64 t.raw.op), .v (.string t.raw.name), .v (.slice a1 (Rw.encL t.raw.args).length c1), .v (.slice a2 (Pt.encL t.parts).length c2)]
abbrev itS (t : It) (a1 : Option Addr) (c1 : Nat) (a2 : Option Addr) (c2 : Nat) : SV := .agg (itL t a1 c1 a2 c2)
abbrev itR (t : It) (a : Option Addr) (c : Nat) : Value × D := (.slice a (Pt.encL t.parts).length c, .sl 8 (Pt.encL t.parts))

/-- An item is well formed. -/
def itemOK (t : It) : Bool :=
  if (t.word.toList == emB.toList) = true then (((isSmallF t.name && !(t.name.toList == tyB.toList)) && rawOK t.raw) && ((Pt.encL t.parts).length : Int) == 0)
  else (((isSmallF t.word && (t.name.toList == emB.toList)) && emptyRaw t.raw) && (properL (Pt.skL t.parts) 1 200).1)

theorem checkItem_spec (t : It) (a1 : Option Addr) (c1 : Nat) (a2 : Option Addr) (c2 : Nat) : Pure Tryz.prog (fnS 32) [itS t a1 c1 a2 c2] [rwR t.raw a1 c1, itR t a2 c2] (fun r out => r = iS (if itemOK t then 0 else 2) ∧ out = []) := by
  refine Meets.of_ok fun hok => ?_
  have hB : (Pt.encL t.parts).length ≤ 1152921504606846976 := (hok _ (List.mem_cons_of_mem _ (List.mem_cons_self ..))).1
  have hlen := Pt.encL_length t.parts
  refine spec_of_body (N := 53) (m := 0) (dt := fun _ => none) [] ttOK Tryz.func32 rfl Tryz.call32 Tryz.ntmps32 rfl rfl rfl mixed (by kernel_rfl) ?_
  refine AtIf.mk (fun hw => ?_) (fun hw => ?_)
  · have hw : (t.word.toList == emB.toList) = true := hw
    have hI : itemOK t = (((isSmallF t.name && !(t.name.toList == tyB.toList)) && rawOK t.raw) && ((Pt.encL t.parts).length : Int) == 0) := by rw [itemOK, if_pos hw]
    refine AtGuard.mk (fun h1 => ?_) (fun h1 => ?_)
    · have h1 : decide (((Pt.encL t.parts).length : Int) > 0) = false := h1
      have h1' : (((Pt.encL t.parts).length : Int) == 0) = true := by simp at h1 ⊢; omega
      refine (isSmall_spec t.name).at (by simp) rfl rfl ?_
      rintro r out ⟨rfl, rfl⟩
      rw [h1', Bool.and_true] at hI
      refine AtIf.mk (fun h2 => ?_) (fun h2 => ?_)
      · have h2 : (!isSmallF t.name || (t.name.toList == tyB.toList)) = true := h2
        refine AtRet.pure [] rfl (by simp) ⟨?_, rfl⟩
        have : itemOK t = false := by
          rw [hI]
          revert h2
          cases isSmallF t.name <;> cases (t.name.toList == tyB.toList) <;> simp
        rw [this]; rfl
      · have h2 : (!isSmallF t.name || (t.name.toList == tyB.toList)) = false := h2
        refine (checkRaw_spec t.raw a1 c1).at (by simp) rfl rfl ?_
        rintro r out ⟨rfl, rfl⟩
        refine AtRet.pure [] rfl (by simp) ⟨?_, rfl⟩
        have : itemOK t = rawOK t.raw := by
          rw [hI]
          revert h2
          cases isSmallF t.name <;> cases (t.name.toList == tyB.toList) <;> simp
        rw [this]
    · have h1 : decide (((Pt.encL t.parts).length : Int) > 0) = true := h1
      refine AtIf.mk (fun _ => ?_) (fun h => by cases h)
      refine AtRet.pure [] rfl (by simp) ⟨?_, rfl⟩
      have h1' : (((Pt.encL t.parts).length : Int) == 0) = false := by rw [beq_eq_false_iff_ne]; simp only [decide_eq_true_eq] at h1; omega
      rw [hI, h1', Bool.and_false]; rfl
  have hw : (t.word.toList == emB.toList) = false := hw
  have hI : itemOK t = (((isSmallF t.word && (t.name.toList == emB.toList)) && emptyRaw t.raw) && (properL (Pt.skL t.parts) 1 200).1) := by rw [itemOK, if_neg (by rw [hw]; simp)]
  refine (isSmall_spec t.word).at (by simp) rfl rfl ?_
  rintro r out ⟨rfl, rfl⟩
  refine AtGuard.mk (fun h1 => ?_) (fun h1 => ?_)
  rotate_left
  · have h1 : (!isSmallF t.word || !(t.name.toList == emB.toList)) = true := h1
    refine AtIf.mk (fun _ => ?_) (fun h => by cases h)
    refine AtRet.pure [] rfl (by simp) ⟨?_, rfl⟩
    have : itemOK t = false := by
      rw [hI]
      revert h1
      cases isSmallF t.word <;> cases (t.name.toList == emB.toList) <;> simp
    rw [this]; rfl
  have h1 : (!isSmallF t.word || !(t.name.toList == emB.toList)) = false := h1
  refine (empty_spec t.raw a1 c1).at (by simp) rfl rfl ?_
  rintro r out ⟨rfl, rfl⟩
  have hI2 : itemOK t = (emptyRaw t.raw && (properL (Pt.skL t.parts) 1 200).1) := by
    rw [hI]
    revert h1
    cases isSmallF t.word <;> cases (t.name.toList == emB.toList) <;> simp
  refine AtIf.mk (fun h2 => ?_) (fun h2 => ?_)
  · have h2 : emptyRaw t.raw = false := by simpa using h2
    exact AtRet.pure [] rfl (by simp) ⟨by rw [hI2, h2]; rfl, rfl⟩
  have h2 : emptyRaw t.raw = true := by simpa using h2
  rw [h2, Bool.true_and] at hI2
  refine AtLoop.mk ⟨Nat × Int, fun x => [(45, iS x.1), (44, iS (Pt.encL t.parts).length), (43, .v (.slice a2 (Pt.encL t.parts).length c2)), (3, .loc 1 0)],
    fun x => ⟨[.cells 28 (itL t a1 c1 a2 c2), .cells 3 [iS x.2]], [], [rwR t.raw a1 c1, itR t a2 c2]⟩,
    fun x => x.1 ≤ t.parts.length ∧ 0 ≤ x.2 ∧ x.2 ≤ 400 ∧ itemOK t = (properL (Pt.skL (t.parts.drop x.1)) 1 (x.2 + 200)).1,
    fun x => t.parts.length - x.1, (0, 0), ⟨Nat.zero_le _, by simp only; omega, by simp only; omega, hI2⟩, ⟨rfl, rfl, rfl, rfl, trivial⟩, StLe.refl _, fun x _ => ⟨rfl, rfl⟩, ?_⟩
  rintro ⟨i, kk⟩ ⟨hi, hk0, hk4, hinv⟩
  simp only at hi hk0 hk4 hinv ⊢
  refine AtIf.mk (fun h3 => ?_) (fun h3 => ?_)
  · simp only [decide_eq_true_eq, hlen] at h3
    obtain ⟨t', ht'⟩ : ∃ t', t.parts[i]? = some t' := ⟨_, List.getElem?_eq_getElem (by omega)⟩
    refine at_index ttOK 1 rfl rfl rfl rfl (by omega) (by rw [Int.toNat_natCast]; exact Pt.encL_get ht') ?_
    intro b1 d1 _ _ b2 d2 _ _
    have hspec := whole_spec t' 1 kk b1 d1 b2 d2 (by omega) (by omega) hk0 hk4
    refine hspec.frame [1] rfl rfl (by simp) rfl ?_ ?_ rfl rfl ?_
    · intro p q hp
      match p, hp with
      | 0, hp => simp at hp; subst hp; exact ⟨1, rfl, rfl, rfl⟩
    · intro p hp; simp only [List.mem_cons, List.not_mem_nil, or_false] at hp ⊢; rcases hp with rfl | rfl <;> simp
    · rintro o s' ⟨kk', rfl, hkk, rfl⟩
      refine ⟨rfl, rfl, [.cells 3 [iS kk']], rfl, ?_⟩
      have hle := properF_le t'.sk 1 (kk + 200) (by omega) (by omega)
      rw [drop_cons ht', Pt.skL, properL] at hinv
      cases hp : properF t'.sk 1 (kk + 200) with
      | mk b k' =>
        rw [hp] at hinv hle hkk
        refine AtIf.mk (fun h4 => ?_) (fun h4 => ?_)
        · have h4 : b = false := by simpa using h4
          subst h4
          exact AtRet.pure [] rfl (by simp) ⟨by rw [hinv]; rfl, rfl⟩
        · have h4 : b = true := by simpa using h4
          subst h4
          have hkk := hkk rfl
          have hw3 : IntKind.i64.wrap (i + 1) = ((i + 1 : Nat) : Int) := wrap_i64 (by omega) (by omega)
          have h6 := hle.2.2 rfl
          simp only at hle h6 hinv hkk
          refine ⟨(i + 1, kk'), ⟨by omega, by simp only; omega, by simp only; omega, ?_⟩, by simp only; omega, ⟨by rw [← hw3]; rfl, rfl, rfl, rfl, trivial⟩, StLe.to _ _ rfl (by simp) rfl rfl⟩
          rw [hinv]
          simp only
          congr 2
          omega
  · simp only [decide_eq_false_iff_not, hlen] at h3
    rw [List.drop_of_length_le (by omega), Pt.skL, properL] at hinv
    exact AtRet.pure [] rfl (by simp) ⟨by rw [hinv]; rfl, rfl⟩

end Go.Proofs.YtogicnodmgdnbaaGreat
end

/-! G1 -/
section
namespace Go.Proofs.YtogicnodmgdnbaaGreat
open Go.Tr Go
set_option maxRecDepth 10000
set_option linter.unusedVariables false

structure Dc where
  name : ByteArray
  cls : Tm
  implicit : Int
abbrev Dc.enc (t : Dc) : D := .agg [.str t.name, .agg [.int .i64 t.cls.op, .int .i64 t.cls.hd, .int .i64 t.cls.n, .sl 4 (Tm.encL t.cls.args)], .int .i64 t.implicit]
abbrev Dc.encL (l : List Dc) : List D := l.map Dc.enc
theorem Dc.encL_eq (l : List Dc) : Dc.encL l = l.map Dc.enc := rfl
theorem Dc.enc_eq (t : Dc) : t.enc = .agg [.str t.name, .agg [.int .i64 t.cls.op, .int .i64 t.cls.hd, .int .i64 t.cls.n, .sl 4 (Tm.encL t.cls.args)], .int .i64 t.implicit] := rfl
theorem Dc.encL_length (l : List Dc) : (Dc.encL l).length = l.length := by simp
theorem Dc.encL_get {l : List Dc} {i : Nat} {t : Dc} (h : l[i]? = some t) : (Dc.encL l)[i]? = some (.agg [.str t.name, .agg [.int .i64 t.cls.op, .int .i64 t.cls.hd, .int .i64 t.cls.n, .sl 4 (Tm.encL t.cls.args)], .int .i64 t.implicit]) := by rw [Dc.encL_eq, List.getElem?_map, h]; rfl
structure Md where
  family : Int
  signs : (List Int)
abbrev Md.enc (t : Md) : D := .agg [.int .i64 t.family, .sl 1 (List.map (D.int .i64) t.signs)]
abbrev Md.encL (l : List Md) : List D := l.map Md.enc
theorem Md.encL_eq (l : List Md) : Md.encL l = l.map Md.enc := rfl
theorem Md.enc_eq (t : Md) : t.enc = .agg [.int .i64 t.family, .sl 1 (List.map (D.int .i64) t.signs)] := rfl
theorem Md.encL_length (l : List Md) : (Md.encL l).length = l.length := by simp
theorem Md.encL_get {l : List Md} {i : Nat} {t : Md} (h : l[i]? = some t) : (Md.encL l)[i]? = some (.agg [.int .i64 t.family, .sl 1 (List.map (D.int .i64) t.signs)]) := by rw [Md.encL_eq, List.getElem?_map, h]; rfl
structure Mt where
  name : ByteArray
  cls : Tm
  solved : Bool
  value : Tm
abbrev Mt.enc (t : Mt) : D := .agg [.str t.name, .agg [.int .i64 t.cls.op, .int .i64 t.cls.hd, .int .i64 t.cls.n, .sl 4 (Tm.encL t.cls.args)], .bool t.solved, .agg [.int .i64 t.value.op, .int .i64 t.value.hd, .int .i64 t.value.n, .sl 4 (Tm.encL t.value.args)]]
abbrev Mt.encL (l : List Mt) : List D := l.map Mt.enc
theorem Mt.encL_eq (l : List Mt) : Mt.encL l = l.map Mt.enc := rfl
theorem Mt.enc_eq (t : Mt) : t.enc = .agg [.str t.name, .agg [.int .i64 t.cls.op, .int .i64 t.cls.hd, .int .i64 t.cls.n, .sl 4 (Tm.encL t.cls.args)], .bool t.solved, .agg [.int .i64 t.value.op, .int .i64 t.value.hd, .int .i64 t.value.n, .sl 4 (Tm.encL t.value.args)]] := rfl
theorem Mt.encL_length (l : List Mt) : (Mt.encL l).length = l.length := by simp
theorem Mt.encL_get {l : List Mt} {i : Nat} {t : Mt} (h : l[i]? = some t) : (Mt.encL l)[i]? = some (.agg [.str t.name, .agg [.int .i64 t.cls.op, .int .i64 t.cls.hd, .int .i64 t.cls.n, .sl 4 (Tm.encL t.cls.args)], .bool t.solved, .agg [.int .i64 t.value.op, .int .i64 t.value.hd, .int .i64 t.value.n, .sl 4 (Tm.encL t.value.args)]]) := by rw [Mt.encL_eq, List.getElem?_map, h]; rfl
structure Kn where
  sig : (List Dc)
  metas : (List Mt)
abbrev Kn.enc (t : Kn) : D := .agg [.sl 6 (Dc.encL t.sig), .sl 10 (Mt.encL t.metas)]
abbrev Kn.encL (l : List Kn) : List D := l.map Kn.enc
theorem Kn.encL_eq (l : List Kn) : Kn.encL l = l.map Kn.enc := rfl
theorem Kn.enc_eq (t : Kn) : t.enc = .agg [.sl 6 (Dc.encL t.sig), .sl 10 (Mt.encL t.metas)] := rfl
theorem Kn.encL_length (l : List Kn) : (Kn.encL l).length = l.length := by simp
theorem Kn.encL_get {l : List Kn} {i : Nat} {t : Kn} (h : l[i]? = some t) : (Kn.encL l)[i]? = some (.agg [.sl 6 (Dc.encL t.sig), .sl 10 (Mt.encL t.metas)]) := by rw [Kn.encL_eq, List.getElem?_map, h]; rfl
structure Ct where
  n : Int
abbrev Ct.enc (t : Ct) : D := .agg [.int .i64 t.n]
abbrev Ct.encL (l : List Ct) : List D := l.map Ct.enc
theorem Ct.encL_eq (l : List Ct) : Ct.encL l = l.map Ct.enc := rfl
theorem Ct.enc_eq (t : Ct) : t.enc = .agg [.int .i64 t.n] := rfl
theorem Ct.encL_length (l : List Ct) : (Ct.encL l).length = l.length := by simp
theorem Ct.encL_get {l : List Ct} {i : Nat} {t : Ct} (h : l[i]? = some t) : (Ct.encL l)[i]? = some (.agg [.int .i64 t.n]) := by rw [Ct.encL_eq, List.getElem?_map, h]; rfl
structure Sta where
  opn : (List Bool)
  known : (List Bool)
abbrev Sta.enc (t : Sta) : D := .agg [.sl 1 (List.map D.bool t.opn), .sl 1 (List.map D.bool t.known)]
abbrev Sta.encL (l : List Sta) : List D := l.map Sta.enc
theorem Sta.encL_eq (l : List Sta) : Sta.encL l = l.map Sta.enc := rfl
theorem Sta.enc_eq (t : Sta) : t.enc = .agg [.sl 1 (List.map D.bool t.opn), .sl 1 (List.map D.bool t.known)] := rfl
theorem Sta.encL_length (l : List Sta) : (Sta.encL l).length = l.length := by simp
theorem Sta.encL_get {l : List Sta} {i : Nat} {t : Sta} (h : l[i]? = some t) : (Sta.encL l)[i]? = some (.agg [.sl 1 (List.map D.bool t.opn), .sl 1 (List.map D.bool t.known)]) := by rw [Sta.encL_eq, List.getElem?_map, h]; rfl
structure Wr where
  premise : Int
  arg : Int
abbrev Wr.enc (t : Wr) : D := .agg [.int .i64 t.premise, .int .i64 t.arg]
abbrev Wr.encL (l : List Wr) : List D := l.map Wr.enc
theorem Wr.encL_eq (l : List Wr) : Wr.encL l = l.map Wr.enc := rfl
theorem Wr.enc_eq (t : Wr) : t.enc = .agg [.int .i64 t.premise, .int .i64 t.arg] := rfl
theorem Wr.encL_length (l : List Wr) : (Wr.encL l).length = l.length := by simp
theorem Wr.encL_get {l : List Wr} {i : Nat} {t : Wr} (h : l[i]? = some t) : (Wr.encL l)[i]? = some (.agg [.int .i64 t.premise, .int .i64 t.arg]) := by rw [Wr.encL_eq, List.getElem?_map, h]; rfl
inductive Sm where
  | mk (args : (List Sm)) (con : Int)
def Sm.args : Sm → (List Sm) | .mk x _ => x
def Sm.con : Sm → Int | .mk _ x => x
mutual
def Sm.enc : Sm → D
  | .mk args con => .agg [.sl 2 (Sm.encL args), .int .i64 con]
def Sm.encL : List Sm → List D
  | [] => []
  | t :: ts => t.enc :: Sm.encL ts
 end
theorem Sm.encL_eq : ∀ (l : List Sm), Sm.encL l = l.map Sm.enc
  | [] => rfl
  | t :: ts => by simp only [Sm.encL, List.map_cons, Sm.encL_eq ts]
theorem Sm.enc_eq (t : Sm) : t.enc = .agg [.sl 2 (Sm.encL t.args), .int .i64 t.con] := by cases t; rfl
theorem Sm.encL_length (l : List Sm) : (Sm.encL l).length = l.length := by simp [Sm.encL_eq]
theorem Sm.encL_get {l : List Sm} {i : Nat} {t : Sm} (h : l[i]? = some t) : (Sm.encL l)[i]? = some (.agg [.sl 2 (Sm.encL t.args), .int .i64 t.con]) := by
  rw [Sm.encL_eq, List.getElem?_map, h]; cases t; rfl
theorem Od.enc_eq (t : Od) : t.enc = .agg [.int .i64 t.op, .int .i64 t.n, .sl 3 (Od.encL t.parts)] := by cases t; rfl
end Go.Proofs.YtogicnodmgdnbaaGreat
end

/-! Rd1 -/
section
namespace Go.Proofs.YtogicnodmgdnbaaGreat
open Go.Tr Go
open Go.ChangeShapes Go.WideShapes Go.ChangeAt Go.RowKit
set_option maxRecDepth 10000
set_option linter.unusedVariables false

theorem cz3 : Tryz.prog.cellsOf 3 = 1 := by kernel_rfl
theorem cz29 : Tryz.prog.cellsOf 29 = 1 := by kernel_rfl
theorem cz31 : Tryz.prog.cellsOf 31 = 2 := by kernel_rfl
theorem cz45 : Tryz.prog.cellsOf 45 = 1 := by kernel_rfl
theorem cz47 : Tryz.prog.cellsOf 47 = 4 := by kernel_rfl
section
variable {H : Type} {enc : TypeId × Value → H} {W : World}

theorem repC_Tm {W : World} {t : Tm} {a1 : Option Addr} {c1 : Nat} (r1 : RepC (fun _ => True) W (.sl 4 (Tm.encL t.args)) [.slice a1 (Tm.encL t.args).length c1]) : RepC (fun _ => True) W t.enc [.int .i64 t.op, .int .i64 t.hd, .int .i64 t.n, .slice a1 (Tm.encL t.args).length c1] := by
  rw [Tm.enc_eq]
  exact ⟨[.int .i64 t.op], _, rfl, rfl, [.int .i64 t.hd], _, rfl, rfl, [.int .i64 t.n], _, rfl, rfl, [.slice a1 (Tm.encL t.args).length c1], _, rfl, r1, rfl⟩

theorem bz47 : 1 ≤ Tryz.prog.bytesOf 47 := by decide +kernel

theorem rds_Tm (n : Nat) (hel : ∀ m, m < n → ∀ cs x, DataW.trod enc Tryz.prog W 0 (fun _ => true) true m 47 cs = some x → (∀ y ∈ x.1.weights Tryz.prog 47, y ≤ reachBytes) → ∃ t : Tm, RepC (fun _ => True) W t.enc cs)
    {cs : List Value} {x : DataW H × List MemPlace} (h : DataW.trod enc Tryz.prog W 0 (fun _ => true) true n 45 cs = some x) (hw : ∀ y ∈ x.1.weights Tryz.prog 45, y ≤ reachBytes) :
    ∃ (l : List Tm) (a : Option Addr) (c : Nat), cs = [.slice a (Tm.encL l).length c] ∧ RepC (fun _ => True) W (.sl 4 (Tm.encL l)) [.slice a (Tm.encL l).length c] := by
  obtain ⟨l, a, c, e, hr⟩ := read_slice Tryz.underlying45 cz47 (by decide) bz47 Tm.enc n hel h hw
  subst e
  exact ⟨l, a, c, by rw [Tm.encL_length], by rw [Tm.encL_eq, List.length_map]; exact hr⟩

theorem rd_Tm : ∀ (n : Nat) (cs : List Value) (x : DataW H × List MemPlace), DataW.trod enc Tryz.prog W 0 (fun _ => true) true n 47 cs = some x → (∀ y ∈ x.1.weights Tryz.prog 47, y ≤ reachBytes) →
    ∃ (t : Tm) (a1 : Option Addr) (c1 : Nat), cs = [.int .i64 t.op, .int .i64 t.hd, .int .i64 t.n, .slice a1 (Tm.encL t.args).length c1] ∧ RepC (fun _ => True) W (.sl 4 (Tm.encL t.args)) [.slice a1 (Tm.encL t.args).length c1] := by
  intro n
  induction n using Nat.strongRecOn with
  | ind n ih =>
  intro cs x h hw
  obtain ⟨xs, m, rfl, rfl, hl, hlen, hf⟩ := DataW.trod_struct Tryz.underlying47 h
  match xs, hlen with
  | [y0, y1, y2, y3], _ =>
  rw [cz47] at hl
  match cs, hl with
  | [v0, v1, v2, v3], _ =>
  have h0 : DataW.trod enc Tryz.prog W 0 (fun _ => true) true m 3 (([v0, v1, v2, v3].drop 0).take (Tryz.prog.cellsOf 3)) = some y0 := hf 0 _ rfl
  have h1 : DataW.trod enc Tryz.prog W 0 (fun _ => true) true m 3 (([v0, v1, v2, v3].drop 1).take (Tryz.prog.cellsOf 3)) = some y1 := hf 1 _ rfl
  have h2 : DataW.trod enc Tryz.prog W 0 (fun _ => true) true m 3 (([v0, v1, v2, v3].drop 2).take (Tryz.prog.cellsOf 3)) = some y2 := hf 2 _ rfl
  have h3 : DataW.trod enc Tryz.prog W 0 (fun _ => true) true m 45 (([v0, v1, v2, v3].drop 3).take (Tryz.prog.cellsOf 45)) = some y3 := hf 3 _ rfl
  simp only [cz3, cz45, List.drop_zero, List.drop_succ_cons, List.take_succ_cons, List.take_zero] at h0 h1 h2 h3
  simp only [DataW.weights, Tryz.underlying47, List.map_cons, List.map_nil, DataW.weightsEach, List.append_nil, List.mem_append] at hw
  obtain ⟨f0, e0, _, _⟩ := DataW.trod_int Tryz.underlying3 h0
  obtain ⟨f1, e1, _, _⟩ := DataW.trod_int Tryz.underlying3 h1
  obtain ⟨f2, e2, _, _⟩ := DataW.trod_int Tryz.underlying3 h2
  obtain ⟨f3, a1, c1, e3, r1⟩ := rds_Tm m (fun m' hm' cs' x' h' hw' => by
    obtain ⟨t, a1, c1, rfl, r1⟩ := ih m' (by omega) cs' x' h' hw'
    exact ⟨t, repC_Tm r1⟩) h3 (fun y hy => hw y (.inr (.inr (.inr hy))))
  simp only [List.cons.injEq, and_true] at e0 e1 e2 e3
  subst e0
  subst e1
  subst e2
  subst e3
  exact ⟨.mk f0 f1 f2 f3, a1, c1, rfl, r1⟩

theorem arg_Tm {base : Nat} {v : Value} {d : DataW H} {p : List MemPlace} (hok : Value.okWide Tryz.prog W .any base 47 v) (h : DataW.Trod enc Tryz.prog W 0 (fun _ => true) true 47 v d p) (hw : ∀ y ∈ d.weights Tryz.prog 47, y ≤ reachBytes) :
    ∃ (t : Tm) (a1 : Option Addr) (c1 : Nat), v = .agg #[.int .i64 t.op, .int .i64 t.hd, .int .i64 t.n, .slice a1 (Tm.encL t.args).length c1] ∧ Rep (fun _ => True) W (.slice a1 (Tm.encL t.args).length c1) (.sl 4 (Tm.encL t.args)) := by
  obtain ⟨cs, rfl, _⟩ := okWide_struct Tryz.underlying47 hok
  obtain ⟨n, hn⟩ := h
  obtain ⟨t, a1, c1, e, r1⟩ := rd_Tm n _ _ hn hw
  simp only [Value.cells] at e
  have e : cs = #[.int .i64 t.op, .int .i64 t.hd, .int .i64 t.n, .slice a1 (Tm.encL t.args).length c1] := by rw [← Array.toList_inj, e]
  exact ⟨t, a1, c1, by rw [e], r1⟩

theorem bz3 : 1 ≤ Tryz.prog.bytesOf 3 := by decide +kernel
theorem rd_ints29 (n : Nat) (cs : List Value) (x : DataW H × List MemPlace) (h : DataW.trod enc Tryz.prog W 0 (fun _ => true) true n 29 cs = some x) (hw : ∀ y ∈ x.1.weights Tryz.prog 29, y ≤ reachBytes) :
    ∃ (l : List Int) (a : Option Addr) (c : Nat), cs = [.slice a (List.map (D.int .i64) l).length c] ∧ RepC (fun _ => True) W (.sl 1 (List.map (D.int .i64) l)) [.slice a (List.map (D.int .i64) l).length c] := by
  obtain ⟨l, a, c, e, hr⟩ := read_slice Tryz.underlying29 cz3 (by decide) bz3 (D.int .i64) n (fun m' _ cs' x' h' _ => by
    obtain ⟨k, rfl, _, _⟩ := DataW.trod_int Tryz.underlying3 h'
    exact ⟨k, rfl⟩) h hw
  subst e
  exact ⟨l, a, c, by rw [List.length_map], by rw [List.length_map]; exact hr⟩

theorem rd_Md : ∀ (n : Nat) (cs : List Value) (x : DataW H × List MemPlace), DataW.trod enc Tryz.prog W 0 (fun _ => true) true n 31 cs = some x → (∀ y ∈ x.1.weights Tryz.prog 31, y ≤ reachBytes) →
    ∃ (t : Md) (a1 : Option Addr) (c1 : Nat), cs = [.int .i64 t.family, .slice a1 (List.map (D.int .i64) t.signs).length c1] ∧ RepC (fun _ => True) W (.sl 1 (List.map (D.int .i64) t.signs)) [.slice a1 (List.map (D.int .i64) t.signs).length c1] := by
  intro n
  intro cs x h hw
  obtain ⟨xs, m, rfl, rfl, hl, hlen, hf⟩ := DataW.trod_struct Tryz.underlying31 h
  match xs, hlen with
  | [y0, y1], _ =>
  rw [cz31] at hl
  match cs, hl with
  | [v0, v1], _ =>
  have h0 : DataW.trod enc Tryz.prog W 0 (fun _ => true) true m 3 (([v0, v1].drop 0).take (Tryz.prog.cellsOf 3)) = some y0 := hf 0 _ rfl
  have h1 : DataW.trod enc Tryz.prog W 0 (fun _ => true) true m 29 (([v0, v1].drop 1).take (Tryz.prog.cellsOf 29)) = some y1 := hf 1 _ rfl
  simp only [cz29, cz3, List.drop_zero, List.drop_succ_cons, List.take_succ_cons, List.take_zero] at h0 h1
  simp only [DataW.weights, Tryz.underlying31, List.map_cons, List.map_nil, DataW.weightsEach, List.append_nil, List.mem_append] at hw
  obtain ⟨f0, e0, _, _⟩ := DataW.trod_int Tryz.underlying3 h0
  obtain ⟨f1, a1, c1, e1, r1⟩ := rd_ints29 m _ _ h1 (fun y hy => hw y (.inr hy))
  simp only [List.cons.injEq, and_true] at e0 e1
  subst e0
  subst e1
  exact ⟨.mk f0 f1, a1, c1, rfl, r1⟩

theorem arg_Md {base : Nat} {v : Value} {d : DataW H} {p : List MemPlace} (hok : Value.okWide Tryz.prog W .any base 31 v) (h : DataW.Trod enc Tryz.prog W 0 (fun _ => true) true 31 v d p) (hw : ∀ y ∈ d.weights Tryz.prog 31, y ≤ reachBytes) :
    ∃ (t : Md) (a1 : Option Addr) (c1 : Nat), v = .agg #[.int .i64 t.family, .slice a1 (List.map (D.int .i64) t.signs).length c1] ∧ Rep (fun _ => True) W (.slice a1 (List.map (D.int .i64) t.signs).length c1) (.sl 1 (List.map (D.int .i64) t.signs)) := by
  obtain ⟨cs, rfl, _⟩ := okWide_struct Tryz.underlying31 hok
  obtain ⟨n, hn⟩ := h
  obtain ⟨t, a1, c1, e, r1⟩ := rd_Md n _ _ hn hw
  simp only [Value.cells] at e
  have e : cs = #[.int .i64 t.family, .slice a1 (List.map (D.int .i64) t.signs).length c1] := by rw [← Array.toList_inj, e]
  exact ⟨t, a1, c1, by rw [e], r1⟩
end
end Go.Proofs.YtogicnodmgdnbaaGreat
end

/-! Gs -/
section
namespace Go.Tr
open Go
set_option linter.unusedSimpArgs false

theorem repE_rep {J : Nat → Prop} {w : World} {d : D} {u : Value} (h : RepC J w d [u]) : ∀ (n : Nat) (cs : List Value), n ≤ cs.length → (∀ i, i < n → cs[i]? = some u) → RepE J w 1 (List.replicate n d) cs
  | 0, cs, _, _ => by simp [RepE]
  | n + 1, [], hn, _ => by simp at hn
  | n + 1, c :: cs, hn, hc => by
    have h0 := hc 0 (by omega)
    simp at h0
    subst h0
    simp only [List.replicate_succ, RepE]
    refine ⟨by simp, by simpa using h, ?_⟩
    simp only [List.drop_succ_cons, List.drop_zero]
    exact repE_rep h n cs (by simpa using hn) (fun i hi => by have := hc (i + 1) (by omega); simpa using this)

/-- A slice is made. -/
theorem at_makeSliceG {P : Program} {tt : Tab} (hT : TTOK P tt) {t e : TypeId} {n : Int} {x y : SV} {S : St} {K : SV → St → Prop} {d : D} {u : Value} {ds' : List D} (ht : tt t = some (.slice e 1)) (hel : ∃ i, P.info? e = some i ∧ i.zero = some u ∧ i.size = 1 ∧ i.bytes ≤ 16) (hu : D.one d = some u)
    (hx : x = .v (.int .i64 n)) (hy : y = .v (.int .i64 n)) (hn : 0 ≤ n ∧ n ≤ 1000000) (hds : ds' = List.replicate n.toNat d)
    (h : ∀ a, forceL (⟨.slice a ds'.length n.toNat, 1, e, ds'⟩ :: S.accs) (fun accs => K (.v (.slice a ds'.length n.toNat)) ⟨S.own, accs, S.reps⟩)) : AtSem P (fun ℓ => Instr.makeSlice t (x.den ℓ) (y.den ℓ)) S K := by
  subst hx hy hds
  simp only [forceL_eq] at h
  obtain ⟨i, hi1, hi2, hi3, hi4⟩ := hel
  obtain ⟨hu1, hu2⟩ := one_cell hu
  constructor
  intro J ℓ w hG hJ
  have hrun := run_make (P := P) w t e i u (hT t _ ht).2.1 hi1 hi2 .i64 .i64 n n hn.1 (Int.le_refl _) (by
    have h1 : (i.bytes : Int) ≤ 16 := by omega
    have : (i.bytes : Int) * n ≤ 16 * n := Int.mul_le_mul_of_nonneg_right h1 hn.1
    omega) (by omega)
  rw [hi3, Nat.mul_one] at hrun
  have hcell : u.cells = #[u] := hu2
  generalize hcs : madeCells u.cells n.toNat = flat at hrun
  have hsize : flat.size = n.toNat := by rw [← hcs, size_madeCells]
  have hget : ∀ j, j < n.toNat → flat.toList[j]? = some u := by
    intro j hj
    rw [← hcs, hcell]
    simp [madeCells, hj, Nat.mod_one]
  have hold : ∀ x, x < w.heap.size → (w.alloc (.cells flat e (0, 0))).heap[x]? = w.heap[x]? := fun x hx => by
    show (w.heap.push _)[x]? = _
    rw [Array.getElem?_push, if_neg (by omega)]
  have hG1 : Good J ℓ ⟨S.own, ⟨.slice none 0 0, 1, e, []⟩ :: S.accs, S.reps⟩ w := Good.nilAcc 1 e hG
  have hm1 : mutS ℓ ⟨S.own, ⟨.slice none 0 0, 1, e, []⟩ :: S.accs, S.reps⟩ = mutS ℓ S := by simp [mutS, accBlk]
  have hsz : w.heap.size ≤ (w.alloc (.cells flat e (0, 0))).heap.size := by simp
  obtain ⟨hG2, hf⟩ := hG1.regrow hJ (j := 0) (a := ⟨.slice none 0 0, 1, e, []⟩) (a' := ⟨.slice (some ⟨w.heap.size, 0, none⟩) (List.replicate n.toNat d).length n.toNat, 1, e, List.replicate n.toNat d⟩) rfl hsz (fun b hb _ => hold b hb) (by simp [accBlk]) (by
    intro b hb
    simp only [accBlk, List.mem_singleton] at hb
    subst hb
    exact ⟨.inr (Nat.le_refl _), by simp⟩) (fun J' hj => by
    refine .inr ⟨w.heap.size, n.toNat, flat, rfl, World.alloc_heap_new w _, ?_, ?_, ?_⟩
    · simpa using hsize
    · simp only [List.length_replicate]; exact ⟨Nat.le_refl _, by omega⟩
    · exact repE_rep ((repC_one hu _).2 rfl) _ _ (by simp [hsize]) hget)
  refine ⟨.v (.slice (some ⟨w.heap.size, 0, none⟩) (List.replicate n.toNat d).length n.toNat), ℓ, _, w.alloc (.cells flat e (0, 0)), by rw [List.length_replicate]; exact hrun, rfl, List.prefix_refl _, ⟨rfl, rfl, hsz, fun b hb _ => hold b hb⟩, hG2, fun b hb => ?_, h _⟩
  rcases hf b hb with h1 | h1
  · rw [hm1] at h1; exact .inl h1
  · exact .inr h1

end Go.Tr
end
