/- Merged texts: Gx Hand Lexis Strs Raws RawsB Parts PartsB Items. Conditions stand in each rule. -/
import Derived.Test.YthkgcfplebgolaaGreatQE
set_option linter.unusedSimpArgs false
set_option linter.unusedVariables false

namespace Go.Tr
section
open Go
theorem bind_some {α β : Type} {x : Option α} {f : α → Option β} {r : β} (h : x.bind f = some r) : ∃ y, x = some y ∧ f y = some r := by
 cases x with
 | none => cases h
 | some y => exact ⟨y, rfl, h⟩
theorem qg {α : Type} {b : Bool} {A B : Option α} {r : α} (hb : b = true) (h : cond b A B = some r) : A = some r := by subst hb; exact h
theorem qf {α : Type} {b : Bool} {A B : Option α} {r : α} (hb : b = false) (h : cond b A B = some r) : B = some r := by subst hb; exact h
theorem qj {α : Type} {b : Bool} {A : Option α} {r : α} (h : cond b A none = some r) : b = true ∧ A = some r := by
 cases b with
 | true => exact ⟨rfl, h⟩
 | false => cases h
theorem ff {A : Prop} (h : false = true) : A := by cases h
theorem tf {A : Prop} (h : true = false) : A := by cases h
def idx {α : Type} (l : List α) (i : Int) : Option α := cond (decide (0 ≤ i)) l[i.toNat]? none
theorem qi {α : Type} {l : List α} {i : Int} {x : α} (h : idx l i = some x) : 0 ≤ i ∧ l[i.toNat]? = some x := by
 obtain ⟨h1, h2⟩ := qj h
 exact ⟨of_decide_eq_true h1, h2⟩
theorem idx_nat {α : Type} (l : List α) (i : Nat) : idx l (i : Int) = l[i]? := by simp [idx]
def pickR {α : Type} (l : List α) : List Nat → Option (List α)
 | [] => some []
 | j :: js => match nth l j, pickR l js with
  | some x, some r => some (x :: r)
  | _, _ => none
theorem qgo {α : Type} {l : List α} : ∀ {js : List Nat} {r : List α}, pickR l js = some r → ∀ p ∈ r, p ∈ l
 | [], r, h, p, hp => by cases h; cases hp
 | j :: js, r, h, p, hp => by
  simp only [pickR] at h
  split at h
  ·rename_i x r' h1 h2
   cases h
   rcases List.mem_cons.1 hp with e | e
   ·subst e; exact List.mem_of_getElem? (by rw [← qab]; exact h1)
   ·exact qgo h2 p e
  ·cases h
theorem qe2 {α : Type} {l : List α} : ∀ {js : List Nat} {r : List α}, pickR l js = some r → js.length = r.length ∧ ∀ (p : Nat) (x : α), r[p]? = some x → ∃ i, js[p]? = some i ∧ l[i]? = some x
 | [], r, h => by cases h; exact ⟨rfl, fun p x hp => by simp at hp⟩
 | j :: js, r, h => by
  simp only [pickR] at h
  split at h
  ·rename_i x r' h1 h2
   cases h
   obtain ⟨h3, h4⟩ := qe2 h2
   refine ⟨by simp [h3], fun p y hp => ?_⟩
   cases p with
   | zero => simp at hp; subst hp; exact ⟨j, rfl, by rw [← qab]; exact h1⟩
   | succ p => exact h4 p y (by simpa using hp)
  ·cases h
theorem Pure.atR {P : Program} {cl : Cal} {args : List SV} {rs : List (Value × D)} {R : SV → List (Value × D) → Prop} {S : St} {K : Out → St → Prop} (h : Pure P cl args rs R) (js : List Nat) (hrs : pickR S.reps js = some rs) (hargs : qr 0 args = true) (hcl : cl.wf 0 = true)
  (k : ∀ r out, R r out → addReps S out (fun S' => K (.ret r) S')) : Meets P cl args S K := h.at (qgo hrs) hargs hcl k
def noDup : List Nat → Bool
 | [] => true
 | j :: js => !js.contains j && noDup js
theorem qdy : ∀ {l : List Nat}, noDup l = true → l.Nodup
 | [], _ => .nil
 | j :: js, h => by
  simp only [noDup, Bool.and_eq_true, Bool.not_eq_true', List.contains_eq_mem, decide_eq_false_iff_not] at h
  exact List.nodup_cons.2 ⟨h.1, qdy h.2⟩
theorem Meets.frameR {P : Program} {cl : Cal} {args : List SV} {own : List Blk} {rs : List (Value × D)} {R : Out → St → Prop} {S : St} {K : Out → St → Prop} {cl' : Cal} {args' : List SV} (h : Meets P cl args ⟨own, [], rs⟩ R) (ix js : List Nat)
  (hcl' : cl' = cl.ren (rix ix)) (hargs' : args' = qaz (rix ix) args)
  (hn : noDup ix = true) (hown : pickR S.own ix = some (own.map (Blk.ren (rix ix)))) (hw : wfB ix.length own = true)
  (hrs : pickR S.reps js = some rs) (hargs : qr ix.length args = true) (hcl : cl.wf ix.length = true)
  (k : ∀ o s', R o s' → s'.accs = [] ∧ s'.own.map Blk.mut = own.map Blk.mut ∧ ∃ ks, s'.own.map (Blk.ren (rix ix)) = ks ∧ forceL (setAll S.own ix ks) (fun own => putOwn S own (fun S1 => addReps S1 s'.reps (fun S' => K (o.ren (rix ix)) S')))) : Meets P cl' args' S K := by
 obtain ⟨h1, h2⟩ := qe2 hown
 refine Meets.frame h ix hcl' hargs' (qdy hn) (by simpa using h1.symm) ?_ (qgo hrs) hargs hcl k
 intro p q hp
 obtain ⟨i, h3, h4⟩ := h2 p (q.ren (rix ix)) (by rw [List.getElem?_map, hp]; rfl)
 exact ⟨i, h3, h4, qd8 hw q (List.mem_of_getElem? hp)⟩
inductive ASel where
 | old (j : Nat)
 | nil (k : Nat) (T : TypeId)
 | q (j : Nat)
 | nilq (k : Nat) (T : TypeId)
inductive RSel where
 | old (j : Nat)
 | froz (j : Nat)
 | nil (k : Nat)
def selAccs (S : St) : List ASel → Option (List Acc)
 | [] => some []
 | .old j :: r => match nth S.accs j, selAccs S r with
  | some a, some l => some (a :: l)
  | _, _ => none
 | .nil k T :: r => match selAccs S r with
  | some l => some (⟨.slice none 0 0, k, T, []⟩ :: l)
  | none => none
 | .q j :: r => match nth S.accs j, selAccs S r with
  | some ⟨.slice x n c, k, T, ds⟩, some l => some (⟨.tuple #[.slice x n c], k, T, ds⟩ :: l)
  | _, _ => none
 | .nilq k T :: r => match selAccs S r with
  | some l => some (⟨.tuple #[.slice none 0 0], k, T, []⟩ :: l)
  | none => none
def selReps (S : St) : List RSel → Option (List (Value × D))
 | [] => some []
 | .old j :: r => match nth S.reps j, selReps S r with
  | some a, some l => some (a :: l)
  | _, _ => none
 | .froz j :: r => match nth S.accs j, selReps S r with
  | some a, some l => some ((accVal a.v, .sl a.k a.ds) :: l)
  | _, _ => none
 | .nil k :: r => match selReps S r with
  | some l => some ((.slice none 0 0, .sl k []) :: l)
  | none => none
def oldsA : List ASel → List Nat
 | [] => []
 | .old j :: r => j :: oldsA r
 | .nil _ _ :: r => oldsA r
 | .q j :: r => j :: oldsA r
 | .nilq _ _ :: r => oldsA r
def frozR : List RSel → List Nat
 | [] => []
 | .froz j :: r => j :: frozR r
 | _ :: r => frozR r
def apartN (l : List Nat) : List Nat → Bool
 | [] => true
 | j :: r => !l.contains j && apartN l r
def IsQ (a0 a : Acc) : Prop := ∃ x n c, a0.v = .slice x n c ∧ a = ⟨.tuple #[.slice x n c], a0.k, a0.T, a0.ds⟩
theorem qbe {S : St} : ∀ {ag : List ASel} {l : List Acc}, selAccs S ag = some l → ∀ a ∈ l, (∃ j ∈ oldsA ag, ∃ a0, S.accs[j]? = some a0 ∧ (a = a0 ∨ IsQ a0 a)) ∨ (∃ k T, a = ⟨.slice none 0 0, k, T, []⟩ ∨ a = ⟨.tuple #[.slice none 0 0], k, T, []⟩)
 | [], l, h, a, ha => by cases h; cases ha
 | .old j :: r, l, h, a, ha => by
  simp only [selAccs] at h
  split at h
  ·rename_i x l' h1 h2
   cases h
   rcases List.mem_cons.1 ha with e | e
   ·subst e; exact .inl ⟨j, by simp [oldsA], _, by rw [← qab]; exact h1, .inl rfl⟩
   ·rcases qbe h2 a e with ⟨i, hi, hi'⟩ | h3
    ·exact .inl ⟨i, by simp [oldsA, hi], hi'⟩
    ·exact .inr h3
  ·cases h
 | .nil k T :: r, l, h, a, ha => by
  simp only [selAccs] at h
  split at h
  ·rename_i l' h2
   cases h
   rcases List.mem_cons.1 ha with e | e
   ·subst e; exact .inr ⟨k, T, .inl rfl⟩
   ·rcases qbe h2 a e with ⟨i, hi, hi'⟩ | h3
    ·exact .inl ⟨i, by simpa [oldsA] using hi, hi'⟩
    ·exact .inr h3
  ·cases h
 | .q j :: r, l, h, a, ha => by
  simp only [selAccs] at h
  split at h
  ·rename_i x n c k T ds l' h1 h2
   cases h
   rcases List.mem_cons.1 ha with e | e
   ·subst e; exact .inl ⟨j, by simp [oldsA], _, by rw [← qab]; exact h1, .inr ⟨x, n, c, rfl, rfl⟩⟩
   ·rcases qbe h2 a e with ⟨i, hi, hi'⟩ | h3
    ·exact .inl ⟨i, by simp [oldsA, hi], hi'⟩
    ·exact .inr h3
  ·cases h
 | .nilq k T :: r, l, h, a, ha => by
  simp only [selAccs] at h
  split at h
  ·rename_i l' h2
   cases h
   rcases List.mem_cons.1 ha with e | e
   ·subst e; exact .inr ⟨k, T, .inr rfl⟩
   ·rcases qbe h2 a e with ⟨i, hi, hi'⟩ | h3
    ·exact .inl ⟨i, by simpa [oldsA] using hi, hi'⟩
    ·exact .inr h3
  ·cases h
theorem AccOK.toQ {J : Nat → Prop} {w : World} {a0 a : Acc} (h : AccOK J w a0) (hq : IsQ a0 a) : AccOK J w a := by
 obtain ⟨x, n, c, hv, rfl⟩ := hq
 refine .inr (.inr ⟨x, n, c, rfl, ?_⟩)
 simp only
 rcases h with ⟨h1, h2⟩ | ⟨b, cap, cc, h1, h2, h3, h4, h5⟩ | ⟨x', n', c', h1, _⟩
 ·rw [hv] at h1
  simp only [Value.slice.injEq] at h1
  obtain ⟨rfl, rfl, rfl⟩ := h1
  rw [h2]
  exact ⟨rfl, ⟨Nat.le_refl _, Nat.zero_le _⟩, .inl rfl⟩
 ·rw [hv] at h1
  simp only [Value.slice.injEq] at h1
  obtain ⟨rfl, rfl, rfl⟩ := h1
  exact ⟨rfl, h4, .inr ⟨b, 0, cc, rfl, h2, by omega, by simpa using h5⟩⟩
 ·rw [hv] at h1; cases h1
theorem qcc {S : St} : ∀ {rs : List RSel} {l : List (Value × D)}, selReps S rs = some l → ∀ p ∈ l, p ∈ S.reps ∨ (∃ j a, j ∈ frozR rs ∧ S.accs[j]? = some a ∧ p = (accVal a.v, .sl a.k a.ds)) ∨ (∃ k, p = (.slice none 0 0, .sl k []))
 | [], l, h, a, ha => by cases h; cases ha
 | .old j :: r, l, h, a, ha => by
  simp only [selReps] at h
  split at h
  ·rename_i x l' h1 h2
   cases h
   rcases List.mem_cons.1 ha with e | e
   ·subst e; exact .inl (List.mem_of_getElem? (by rw [← qab]; exact h1))
   ·exact qcc h2 a e
  ·cases h
 | .froz j :: r, l, h, a, ha => by
  simp only [selReps] at h
  split at h
  ·rename_i x l' h1 h2
   cases h
   rcases List.mem_cons.1 ha with e | e
   ·exact .inr (.inl ⟨j, x, by simp [frozR], by rw [← qab]; exact h1, e⟩)
   ·rcases qcc h2 a e with h3 | ⟨i, y, h4, h5⟩ | h3
    ·exact .inl h3
    ·exact .inr (.inl ⟨i, y, by simp [frozR, h4], h5⟩)
    ·exact .inr (.inr h3)
  ·cases h
 | .nil k :: r, l, h, a, ha => by
  simp only [selReps] at h
  split at h
  ·rename_i l' h2
   cases h
   rcases List.mem_cons.1 ha with e | e
   ·exact .inr (.inr ⟨k, e⟩)
   ·exact qcc h2 a e
  ·cases h
theorem qee {α : Type} {f : α → List Nat} : ∀ {l : List α}, (l.flatMap f).Nodup → ∀ {i j : Nat} {x y : α} {b : Nat}, l[i]? = some x → l[j]? = some y → i ≠ j → b ∈ f x → b ∈ f y → False
 | [], _, i, j, x, y, b, h, _, _, _, _ => by simp at h
 | a :: l, hn, i, j, x, y, b, hi, hj, hij, hx, hy => by
  rw [List.flatMap_cons, List.nodup_append] at hn
  cases i with
  | zero =>
   simp at hi; subst hi
   cases j with
   | zero => exact hij rfl
   | succ j => exact hn.2.2 b hx b (List.mem_flatMap.2 ⟨y, List.mem_of_getElem? (by simpa using hj), hy⟩) rfl
  | succ i =>
   cases j with
   | zero =>
    simp at hj; subst hj
    exact hn.2.2 b hy b (List.mem_flatMap.2 ⟨x, List.mem_of_getElem? (by simpa using hi), hx⟩) rfl
   | succ j => exact qee hn.2.1 (by simpa using hi) (by simpa using hj) (by omega) hx hy
def accF (a : Acc) : List Nat := accBlk a.v
theorem accF_q {a0 a : Acc} (h : IsQ a0 a) : accF a = accF a0 := by
 obtain ⟨x, n, c, hv, rfl⟩ := h
 cases x with
 | none => simp [accF, hv, accBlk]
 | some x => simp [accF, hv, accBlk]
theorem qi5 {a0 a : Acc} (h : a = a0 ∨ IsQ a0 a) : accF a = accF a0 := by
 rcases h with rfl | h
 ·rfl
 ·exact accF_q h
theorem qiv {a : Acc} {k : Nat} {T : TypeId} (h : a = ⟨.slice none 0 0, k, T, []⟩ ∨ a = ⟨.tuple #[.slice none 0 0], k, T, []⟩) : accF a = [] := by
 rcases h with rfl | rfl <;> rfl
theorem qnq {S : St} {ag : List ASel} {l : List Acc} (h : selAccs S ag = some l) : ∀ b, b ∈ l.flatMap accF → b ∈ S.accs.flatMap accF := by
 intro b hb
 obtain ⟨a, ha, hba⟩ := List.mem_flatMap.1 hb
 rcases qbe h a ha with ⟨j, _, a0, hj, h2⟩ | ⟨k, T, h2⟩
 ·exact List.mem_flatMap.2 ⟨a0, List.mem_of_getElem? hj, by rw [← qi5 h2]; exact hba⟩
 ·rw [qiv h2] at hba; cases hba
theorem qkg {S : St} {x y : Acc} {j : Nat} {r : List ASel} {l' : List Acc} (hn : (S.accs.flatMap accF).Nodup) (hx : S.accs[j]? = some x) (hy : accF y = accF x) (h2 : selAccs S r = some l') (hj : j ∉ oldsA r) (ih : (l'.flatMap accF).Nodup) : ((y :: l').flatMap accF).Nodup := by
 rw [List.flatMap_cons, List.nodup_append]
 refine ⟨?_, ih, fun b hb b' hb' e => ?_⟩
 ·have hm := List.mem_of_getElem? hx
  obtain ⟨s, t, hst⟩ := List.append_of_mem hm
  rw [hst, List.flatMap_append, List.flatMap_cons, List.nodup_append, List.nodup_append] at hn
  rw [hy]
  exact hn.2.1.1
 ·subst e
  rw [hy] at hb
  obtain ⟨a, ha, hba⟩ := List.mem_flatMap.1 hb'
  rcases qbe h2 a ha with ⟨i, hi, a0, hia, h3⟩ | ⟨k, T, h3⟩
  ·rw [qi5 h3] at hba
   refine qee hn hx hia ?_ hb hba
   rintro rfl
   exact hj hi
  ·rw [qiv h3] at hba; cases hba
theorem qb2 {S : St} (hn : (S.accs.flatMap accF).Nodup) : ∀ {ag : List ASel} {l : List Acc}, selAccs S ag = some l → (oldsA ag).Nodup → (l.flatMap accF).Nodup
 | [], l, h, _ => by cases h; simp
 | .old j :: r, l, h, hh => by
  simp only [selAccs] at h
  split at h
  ·rename_i x l' h1 h2
   cases h
   simp only [oldsA] at hh
   obtain ⟨hj, hr⟩ := List.nodup_cons.1 hh
   exact qkg hn (by rw [← qab]; exact h1) rfl h2 hj (qb2 hn h2 hr)
  ·cases h
 | .q j :: r, l, h, hh => by
  simp only [selAccs] at h
  split at h
  ·rename_i x n c k T ds l' h1 h2
   cases h
   simp only [oldsA] at hh
   obtain ⟨hj, hr⟩ := List.nodup_cons.1 hh
   exact qkg hn (by rw [← qab]; exact h1) (accF_q ⟨x, n, c, rfl, rfl⟩) h2 hj (qb2 hn h2 hr)
  ·cases h
 | .nil k T :: r, l, h, hh => by
  simp only [selAccs] at h
  split at h
  ·rename_i l' h2
   cases h
   rw [List.flatMap_cons, qiv (.inl rfl), List.nil_append]
   exact qb2 hn h2 hh
  ·cases h
 | .nilq k T :: r, l, h, hh => by
  simp only [selAccs] at h
  split at h
  ·rename_i l' h2
   cases h
   rw [List.flatMap_cons, qiv (.inr rfl), List.nil_append]
   exact qb2 hn h2 hh
  ·cases h
theorem qjq {l : List Nat} : ∀ {r : List Nat}, apartN l r = true → ∀ j ∈ r, j ∉ l
 | [], _, j, hj => by cases hj
 | i :: r, h, j, hj => by
  simp only [apartN, Bool.and_eq_true, Bool.not_eq_true', List.contains_eq_mem, decide_eq_false_iff_not] at h
  rcases List.mem_cons.1 hj with e | e
  ·subst e; exact h.1
  ·exact qjq h.2 j e
theorem StLe.gen {S : St} (n : Nat) (ag : List ASel) (rs : List RSel) {own : List Blk} {accs : List Acc} {reps : List (Value × D)} (ho : S.own.take n = own) (ha : selAccs S ag = some accs) (hr : selReps S rs = some reps)
  (hn : Nat.ble n S.own.length = true) (hw : wfB n own = true) (hd : noDup (oldsA ag) = true) (hf : apartN (oldsA ag) (frozR rs) = true) : StLe S ⟨own, accs, reps⟩ := by
 subst ho
 have hn := Nat.le_of_ble_eq_true hn
 have hlen : (S.own.take n).length = n := by rw [List.length_take]; omega
 have hmemA : ∀ b, b ∈ accs.flatMap (fun a => accBlk a.v) → b ∈ S.accs.flatMap (fun a => accBlk a.v) := fun b hb => qnq ha b hb
 refine ⟨by simp only [hlen]; exact hn, fun J ℓ w h => ?_⟩
 simp only [hlen]
 have hmem : ∀ b ∈ mutS (ℓ.take n) ⟨S.own.take n, accs, reps⟩, b ∈ mutS ℓ S := fun b hb => by
  simp only [mutS] at hb ⊢
  rcases List.mem_append.1 hb with h1 | h1
  ·exact List.mem_append.2 (.inl ((qc2 n).subset h1))
  ·exact List.mem_append.2 (.inr (hmemA b h1))
 have hx : ∀ x, x < w.heap.size → Jx J (mutS ℓ S) x → Jx J (mutS (ℓ.take n) ⟨S.own.take n, accs, reps⟩) x ∧ w.heap[x]? = w.heap[x]? := fun x _ hj => ⟨⟨hj.1, fun hx => hj.2 (hmem x hx)⟩, rfl⟩
 obtain ⟨_, h2⟩ := StLe.part S n hn (qd8 hw) [] (List.nil_sublist _) [] (by simp)
 obtain ⟨hg, _⟩ := h2 J ℓ w h
 simp only [hlen] at hg
 have hnd := h.nodup
 simp only [mutS] at hnd
 rw [List.nodup_append] at hnd
 have hnodup : (mutS (ℓ.take n) ⟨S.own.take n, accs, reps⟩).Nodup := by
  simp only [mutS]
  rw [List.nodup_append]
  exact ⟨(qc2 n).nodup hnd.1, qb2 hnd.2.1 ha (qdy hd), fun x hx y hy => hnd.2.2 x ((qc2 n).subset hx) y (hmemA y hy)⟩
 refine ⟨⟨hg.len, hnodup, fun b hb => h.lt b (hmem b hb), fun b hb => h.memJ b (hmem b hb), hg.wf, ?_, ?_, ?_⟩, hmem⟩
 ·intro i b k hi hk
  simp only at hk
  have hin : i < n := by
   rcases Nat.lt_or_ge i n with h1 | h1
   ·exact h1
   ·rw [List.getElem?_eq_none (by rw [hlen]; exact h1)] at hk; cases hk
  rw [List.getElem?_take, if_pos hin] at hi hk
  refine (h.own i b k hi hk).keep (qd8 hw k (List.mem_of_getElem? (by rw [List.getElem?_take, if_pos hin]; exact hk))) (fun j hj => ?_) (fun x hx' hj => (hx x hx' hj).1) (fun _ => rfl)
  simp [List.getD, hj]
 ·intro a haa
  rcases qbe ha a haa with ⟨j, _, a0, hj, h2⟩ | ⟨k, T, h2⟩
  ·have h3 := (h.accs a0 (List.mem_of_getElem? hj)).keep hx (fun _ _ _ => rfl)
   rcases h2 with rfl | h2
   ·exact h3
   ·exact h3.toQ h2
  ·rcases h2 with rfl | rfl
   ·exact .inl ⟨rfl, rfl⟩
   ·exact .inr (.inr ⟨none, 0, 0, rfl, rfl, ⟨Nat.le_refl _, Nat.zero_le _⟩, .inl rfl⟩)
 ·intro p hp
  rcases qcc hr p hp with h1 | ⟨j, a, hj, haj, rfl⟩ | ⟨k, rfl⟩
  ·exact (h.reps p h1).map hx
  ·refine (h.accs a (List.mem_of_getElem? haj)).rep hx (fun b hba => ?_)
   have hbm : b ∈ S.accs.flatMap (fun a => accBlk a.v) := List.mem_flatMap.2 ⟨a, List.mem_of_getElem? haj, hba⟩
   refine ⟨h.memJ b (by simp only [mutS]; exact List.mem_append.2 (.inr hbm)), fun hmm => ?_⟩
   simp only [mutS] at hmm
   rcases List.mem_append.1 hmm with hm1 | hm1
   ·exact hnd.2.2 b ((qc2 n).subset hm1) b hbm rfl
   ·obtain ⟨a', ha', hb'⟩ := List.mem_flatMap.1 hm1
    rcases qbe ha a' ha' with ⟨i, hi, a0, hia, h2⟩ | ⟨k, T, h2⟩
    ·have hb0 : b ∈ accBlk a0.v := by
      have h3 := qi5 h2
      simp only [accF] at h3
      rw [← h3]; exact hb'
     refine qee (f := fun (x : Acc) => accBlk x.v) hnd.2.1 hia haj ?_ hb0 hba
     rintro rfl
     exact qjq hf i hj hi
    ·rcases h2 with rfl | rfl <;> simp [accBlk] at hb'
  ·exact ⟨none, 0, rfl, ⟨Nat.zero_le _, Nat.zero_le _⟩, .inl rfl⟩
theorem AtRet.gen {m : Nat} {o : Out} {S : St} {R : Out → St → Prop} (S' : St) (h : StLe S S') (hm : Nat.ble m S'.own.length = true) (ho : o.wf S'.own.length = true) (hR : R o S') : AtRet m o S R :=
 ⟨⟨S', h, Nat.le_of_ble_eq_true hm, ho, hR⟩⟩
theorem qa {r : SV} {S : St} {R : SV → List (Value × D) → Prop} (rs : List RSel) (out : List (Value × D)) (hout : selReps S rs = some out) (hr : r.wf 0 = true) (h : R r out) : AtRet 0 (.ret r) S (fun o S' => ∃ r out, o = .ret r ∧ S' = ⟨[], [], out⟩ ∧ r.wf 0 = true ∧ R r out) :=
 ⟨⟨[], [], out⟩, StLe.gen 0 [] rs rfl rfl hout (by simp) rfl rfl (by simp only [oldsA]; induction (frozR rs) with | nil => rfl | cons a l ih => simpa [apartN] using ih), Nat.zero_le _, hr, r, out, rfl, rfl, hr, h⟩
theorem Meets.le {P : Program} {cl : Cal} {args : List SV} {S S' : St} {R : Out → St → Prop} (h : StLe S S') (hl : Nat.beq S'.own.length S.own.length = true) (k : Meets P cl args S' R) : Meets P cl args S R := by
 intro J ℓ w hG hJ
 have hl := Nat.eq_of_beq_eq_true hl
 obtain ⟨h1, h2⟩ := h.2 J ℓ w hG
 rw [hl, ← hG.len, List.take_length] at h1 h2
 obtain ⟨nx, e1, e2⟩ := k J ℓ w h1 hJ
 refine ⟨nx, e1, e2.mono ?_⟩
 rintro e w' ⟨ℓ', o, S'', a1, a2, a3, a4, a5, a6, a7⟩
 exact ⟨ℓ', o, S'', a1, a2, a3, a4.mono (fun x hx _ => h2 x hx), a5, fun b hb => (a6 b hb).imp (h2 b) id, a7⟩
theorem AtSem.le {P : Program} {m : List Base → Sem Value} {S S' : St} {K : SV → St → Prop} (h : StLe S S') (hl : Nat.beq S'.own.length S.own.length = true) (k : AtSem P m S' K) : AtSem P m S K := by
 constructor
 intro J ℓ w hG hJ
 have hl := Nat.eq_of_beq_eq_true hl
 obtain ⟨h1, h2⟩ := h.2 J ℓ w hG
 rw [hl, ← hG.len, List.take_length] at h1 h2
 obtain ⟨r, ℓ', S'', w', a1, a2, a3, a4, a5, a6, a7⟩ := k.sem J ℓ w h1 hJ
 exact ⟨r, ℓ', S'', w', a1, a2, a3, a4.mono (fun x hx _ => h2 x hx), a5, fun b hb => (a6 b hb).imp (h2 b) id, a7⟩
theorem qm {P : Program} {tt : Tab} (hT : TTOK P tt) {t e ty : TypeId} {k : Nat} {x y : SV} {S : St} {K : SV → St → Prop} {a0 : Option Addr} {n0 c0 : Nat} {a : Option Addr} {m c : Nat} {ds es ds' : List D} (bytes j i : Nat) (ht : tt t = some (.slice e k)) (hel : elemB P e k bytes = true)
  (hx : x = .v (.slice a0 n0 c0)) (hacc : nth S.accs j = some ⟨.slice a0 n0 c0, k, e, ds⟩) (hy : y = .v (.slice a m c)) (hr : nth S.reps i = some (.slice a m c, .sl k es)) (hds : ds' = ds ++ es) (hc : decide (ds'.length ≤ 1000000) = true) (hb : Nat.ble bytes 100000 = true)
  (h : ∀ a' c', forceL (setNth S.accs j ⟨.slice a' ds'.length c', k, e, ds'⟩) (fun accs => K (.v (.slice a' ds'.length c')) ⟨S.own, accs, S.reps⟩)) : AtSem P (fun ℓ => Builtin.append_ #[t, t] ty (qd ℓ [x, y]).toArray) S K := by
 subst hds
 have hc := of_decide_eq_true hc
 have hb := Nat.le_of_ble_eq_true hb
 simp only [List.length_append] at h hc
 have : (ds.length + es.length) * bytes ≤ 1000000 * 100000 := Nat.mul_le_mul hc hb
 exact qjk hT bytes j i ht hel hx hacc hy hr (by omega) (by omega) h
theorem qa7 {α : Type} (f : α → D) {l : List α} {i : Nat} {x : α} (h : l[i]? = some x) : (l.map f)[i]? = some (f x) := by simp [h]
def Ev {α : Type} (f : Nat → Option α) (r : α) : Prop := ∃ N, ∀ n, N ≤ n → f n = some r
theorem Ev.pure {α : Type} (r : α) : Ev (fun _ => some r) r := ⟨0, fun _ _ => rfl⟩
theorem Ev.const {α : Type} {f : Nat → Option α} {r : α} (h : ∀ n, f n = some r) : Ev f r := ⟨0, fun n _ => h n⟩
theorem Ev.succ {α : Type} {f g : Nat → Option α} {r : α} (hf : ∀ n, f (n + 1) = g n) (h : Ev g r) : Ev f r := by
 obtain ⟨N, h⟩ := h
 refine ⟨N + 1, fun n hn => ?_⟩
 obtain ⟨m, rfl⟩ : ∃ m, n = m + 1 := ⟨n - 1, by omega⟩
 rw [hf]; exact h m (by omega)
theorem Ev.bind {α β : Type} {f : Nat → Option α} {g : Nat → α → Option β} {x : α} {r : β} (h : Ev f x) (k : Ev (fun n => g n x) r) : Ev (fun n => (f n).bind (g n)) r := by
 obtain ⟨N, h⟩ := h
 obtain ⟨M, k⟩ := k
 refine ⟨max N M, fun n hn => ?_⟩
 show (f n).bind (g n) = some r
 rw [h n (by omega)]
 exact k n (by omega)
theorem Ev.t {α : Type} {b : Bool} {f g : Nat → Option α} {r : α} (hb : b = true) (h : Ev f r) : Ev (fun n => cond b (f n) (g n)) r := by subst hb; exact h
theorem Ev.f {α : Type} {b : Bool} {f g : Nat → Option α} {r : α} (hb : b = false) (h : Ev g r) : Ev (fun n => cond b (f n) (g n)) r := by subst hb; exact h
theorem Ev.eq {α : Type} {f : Nat → Option α} {r r' : α} (h : Ev f r) (e : r = r') : Ev f r' := e ▸ h
theorem Ev.ite {α : Type} {b : Bool} {f g : Nat → Option α} {r : α} (h : b = true → Ev f r) (k : b = false → Ev g r) : Ev (fun n => cond b (f n) (g n)) r := by
 cases b with
 | true => exact h rfl
 | false => exact k rfl
theorem qe {α : Type} {r : α} {A : Prop} (h : (none : Option α) = some r) : A := by cases h
theorem ql {α : Type} {l : List α} {j : Nat} {x : α} (h : nth l j = some x) : x ∈ l := List.mem_of_getElem? (by rw [← qab]; exact h)
theorem OwnKeptBut.append {W : List Nat} {S : St} {l : List Blk} {accs : List Acc} {reps : List (Value × D)} : OwnKeptBut W S ⟨S.own ++ l, accs, reps⟩ := (OwnKept.append S l accs reps).but W
theorem qk {P : Program} {tt : Tab} (hT : TTOK P tt) {t e : TypeId} {k n : Nat} {l : List (Nat × SV)} {S : St} {K : SV → St → Prop} (bytes : Nat) (ds : List D) {ds' : List D} (ht : tt t = some (.slice e k)) (hel : elemB P e k bytes = true) (hl : partsOK S.reps k 0 l ds) (hn : ds'.length = n) (hds : ds' = ds) (hlim : n * k ≤ 16777216) (hpos : n ≤ 16777216)
  (h : ∀ a, addReps S [(.slice a ds'.length n, .sl k ds')] (fun S' => K (.v (.slice a ds'.length n)) S')) : AtSem P (fun ℓ => Instr.buildSlice t n (denParts ℓ l).toArray) S K := by
 subst hds
 rw [hn] at h
 exact qmh hT bytes _ ht hel hl hn hlim hpos h
theorem qaa {P : Program} {tt : Tab} (hT : TTOK P tt) {t e : TypeId} {k : Nat} {x : SV} {sl sh : Option SV} {S : St} {K : SV → St → Prop} {a : Option Addr} {n c : Nat} {ds ds' : List D} (j : Nat) (lo hi : Int) (hx : x = .v (.slice a n c)) (ht : tt t = some (.slice e k))
  (hr : nth S.reps j = some (.slice a n c, .sl k ds)) (hlo : (∃ q, sl = some (.v (.int q lo))) ∨ (sl = none ∧ lo = 0)) (hhi : (∃ q, sh = some (.v (.int q hi))) ∨ (sh = none ∧ hi = n)) (h0 : decide (0 ≤ lo ∧ lo ≤ hi ∧ hi ≤ n) = true) (hds : ds' = (ds.take hi.toNat).drop lo.toNat)
  (h : ∀ a' c', addReps S [(.slice a' ds'.length c', .sl k ds')] (fun S' => K (.v (.slice a' ds'.length c')) S')) : AtPure P (fun ℓ => Instr.sliceAt t (x.den ℓ) (denO ℓ sl) (denO ℓ sh) (denO ℓ none)) S K := by
 obtain ⟨h1, h2, h3⟩ := of_decide_eq_true h0
 have hb1 : bnd 0 lo.toNat sl := by
  rcases hlo with ⟨q, rfl⟩ | ⟨rfl, rfl⟩
  ·simp only [bnd]; omega
  ·rfl
 have hb2 : bnd n hi.toNat sh := by
  rcases hhi with ⟨q, rfl⟩ | ⟨rfl, rfl⟩
  ·simp only [bnd]; omega
  ·simp only [bnd]; omega
 constructor
 intro J ℓ w hG hJ
 have hrep := hG.reps _ (List.mem_of_getElem? (by rw [← qab]; exact hr))
 simp only [Rep, RepC] at hrep
 obtain ⟨a', cap, heq, hle, _⟩ := hrep
 simp only [List.cons.injEq, Value.slice.injEq, and_true] at heq
 obtain ⟨_, hn, _⟩ := heq
 have hl : ds'.length = hi.toNat - lo.toNat := by subst hds; simp; omega
 refine (at_slice hT j lo.toNat hi.toNat hx ht hr hb1 hb2 (by omega) (by omega) ?_).sem J ℓ w hG hJ
 intro a' c' _
 have := h a' c'
 rw [hl, hds] at this
 exact this
theorem sl_l {α : Type} (f : α → D) (l : List α) (lo : Int) : (l.drop lo.toNat).map f = ((l.map f).take (((l.map f).length : Nat) : Int).toNat).drop lo.toNat := by
 rw [Int.toNat_natCast, List.take_length, List.map_drop]
theorem sl_h {α : Type} (f : α → D) (l : List α) (hi : Int) : (l.take hi.toNat).map f = ((l.map f).take hi.toNat).drop (0 : Int).toNat := by simp [List.map_take]
theorem qga {P : Program} {tt : Tab} (hT : TTOK P tt) {t e : TypeId} {k n : Nat} {l : List (Nat × SV)} {S : St} {K : SV → St → Prop} (bytes : Nat) (ds : List D) {ds' : List D} (ht : tt t = some (.slice e k)) (hel : elemB P e k bytes = true) (hl : partsOK S.reps k 0 l ds) (hn : ds'.length = n) (hds : ds' = ds) (hlim : n * k ≤ 16777216) (hpos : n ≤ 16777216)
  (h : ∀ a, forceL (⟨.slice a ds'.length n, k, e, ds'⟩ :: S.accs) (fun accs => K (.v (.slice a ds'.length n)) ⟨S.own, accs, S.reps⟩)) : AtSem P (fun ℓ => Instr.buildSlice t n (denParts ℓ l).toArray) S K := by
 subst hds
 simp only [qu] at h
 rw [hn] at h
 constructor
 intro J ℓ w hG hJ
 obtain ⟨flat, hfl, hrun, hrep⟩ := qoa hT ht hel (ℓ := ℓ) hl hn hlim w
 have hold : ∀ x, x < w.heap.size → (w.alloc (.cells flat.toArray e (0, 0))).heap[x]? = w.heap[x]? := fun x hx => by
  show (w.heap.push _)[x]? = _
  rw [Array.getElem?_push, if_neg (by omega)]
 have hG1 : Good J ℓ ⟨S.own, ⟨.slice none 0 0, k, e, []⟩ :: S.accs, S.reps⟩ w := Good.nilAcc k e hG
 have hm1 : mutS ℓ ⟨S.own, ⟨.slice none 0 0, k, e, []⟩ :: S.accs, S.reps⟩ = mutS ℓ S := by simp [mutS, accBlk]
 have hsz : w.heap.size ≤ (w.alloc (.cells flat.toArray e (0, 0))).heap.size := by simp
 obtain ⟨hG2, hf⟩ := hG1.regrow hJ (j := 0) (a := ⟨.slice none 0 0, k, e, []⟩) (a' := ⟨.slice (some ⟨w.heap.size, 0, none⟩) n n, k, e, ds'⟩) rfl hsz (fun b hb _ => hold b hb) (by simp [accBlk]) (by
  intro b hb
  simp only [accBlk, List.mem_singleton] at hb
  subst hb
  exact ⟨.inr (Nat.le_refl _), by simp⟩) (fun J' hj => by
  refine .row ⟨w.heap.size, n, flat.toArray, ?_, World.alloc_heap_new w _, ?_, ?_, ?_⟩
  ·simp only; rw [hn]
  ·simpa using hfl
  ·simp only; rw [hn]; exact ⟨Nat.le_refl _, by omega⟩
  ·simp only
   refine hrep (J := J') fun p hp => ?_
   have := hG1.reps p hp
   exact this.map hj)
 refine ⟨.v (.slice (some ⟨w.heap.size, 0, none⟩) n n), ℓ, _, _, hrun, rfl, List.prefix_refl _, ⟨rfl, rfl, hsz, fun b hb _ => hold b hb⟩, hG2, fun b hb => ?_, h _⟩
 rcases hf b hb with h1 | h1
 ·rw [hm1] at h1; exact .inl h1
 ·exact .inr h1
theorem wfB_of {n : Nat} : ∀ {l : List Blk}, (∀ k ∈ l, k.wf n = true) → wfB n l = true
 | [], _ => rfl
 | k :: r, h => by
  simp only [wfB]
  rw [h k (List.mem_cons_self ..)]
  exact wfB_of (fun q hq => h q (List.mem_cons_of_mem _ hq))
theorem Good.pick {J : Nat → Prop} {ℓ : List Base} {o own : List Blk} {accs : List Acc} {rs : List (Value × D)} {w : World} (hG : Good J ℓ ⟨o, accs, rs⟩ w) (ix : List Nat) (hn : noDup ix = true) (hown : pickR o ix = some (own.map (Blk.ren (rixD ix)))) (hw : wfB ix.length own = true) :
  Good J (ix.map (fun i => ℓ.getD i default)) ⟨own, accs, rs⟩ w ∧ ∀ b ∈ mutS (ix.map (fun i => ℓ.getD i default)) ⟨own, accs, rs⟩, b ∈ mutS ℓ ⟨o, accs, rs⟩ := by
 have hn := qdy hn
 obtain ⟨hlen0, hget⟩ := qe2 hown
 have hlen : own.length = ix.length := by simpa using hlen0.symm
 have hown' : ∀ (p : Nat) (k : Blk), own[p]? = some k → ∃ i, ix[p]? = some i ∧ o[i]? = some (k.ren (rixD ix)) ∧ k.wf ix.length = true := by
  intro p k hp
  obtain ⟨i, h3, h4⟩ := hget p (k.ren (rixD ix)) (by rw [List.getElem?_map, hp]; rfl)
  exact ⟨i, h3, h4, qd8 hw k (List.mem_of_getElem? hp)⟩
 let ℓs : List Base := ix.map (fun i => ℓ.getD i default)
 have hixlt : ∀ (p i : Nat), ix[p]? = some i → i < o.length := by
  intro p i hp
  have hp' : p < own.length := by rw [hlen]; exact (List.getElem?_eq_some_iff.1 hp).1
  obtain ⟨i', h1, h2, _⟩ := hown' p own[p] (List.getElem?_eq_getElem hp')
  rw [hp] at h1
  cases h1
  exact (List.getElem?_eq_some_iff.1 h2).1
 have hr : ∀ i, i < ix.length → ℓ.getD (rixD ix i) default = ℓs.getD i default := by
  intro i hi
  simp [ℓs, rixD, List.getD, List.getElem?_map, List.getElem?_eq_getElem hi]
 have hℓs : ∀ (p : Nat) (b : Base), ℓs[p]? = some b → ∃ i, ix[p]? = some i ∧ ℓ[i]? = some b := by
  intro p b hp
  simp only [ℓs, List.getElem?_map, Option.map_eq_some_iff] at hp
  obtain ⟨i, hi, rfl⟩ := hp
  have hlt : i < ℓ.length := by rw [hG.len]; exact hixlt p i hi
  exact ⟨i, hi, by simp [List.getD, List.getElem?_eq_getElem hlt]⟩
 have hmem : ∀ b, b ∈ mutL ℓs own → b ∈ mutL ℓ o := by
  intro b hb
  obtain ⟨p, b', q, h1, h2, h3, h4⟩ := mem_mutL.1 hb
  obtain ⟨i, h5, h6⟩ := hℓs p b' h1
  obtain ⟨i', h7, h8, _⟩ := hown' p q h2
  rw [h5] at h7
  cases h7
  exact mem_mutL.2 ⟨i, b', _, h6, h8, by rw [qa0]; exact h3, h4⟩
 have hnS := hG.nodup
 simp only [mutS] at hnS
 rw [List.nodup_append] at hnS
 obtain ⟨hnA, hnC, hAC⟩ := hnS
 have hnd : (mutL ℓs own).Nodup := by
  refine qlr ?_
  intro p q b b' k1 k2 h1 h2 h3 h4 h5 h6 h7
  obtain ⟨i, e1, e2⟩ := hℓs p b h1
  obtain ⟨j, e3, e4⟩ := hℓs q b' h4
  obtain ⟨i', e5, e6, _⟩ := hown' p k1 h2
  obtain ⟨j', e7, e8, _⟩ := hown' q k2 h5
  rw [e1] at e5; cases e5
  rw [e3] at e7; cases e7
  have := qje hnA i j b b' _ _ e2 e6 (by rw [qa0]; exact h3) e4 e8 (by rw [qa0]; exact h6) h7
  subst this
  have hp1 := (List.getElem?_eq_some_iff.1 e1)
  have hq1 := (List.getElem?_eq_some_iff.1 e3)
  exact (List.getElem_inj hn).1 (hp1.2.trans hq1.2.symm)
 have hmemS : ∀ b, b ∈ mutS ℓs ⟨own, accs, rs⟩ → b ∈ mutS ℓ ⟨o, accs, rs⟩ := fun b hb => by
  simp only [mutS] at hb ⊢
  rcases List.mem_append.1 hb with h1 | h1
  ·exact List.mem_append.2 (.inl (hmem b h1))
  ·exact List.mem_append.2 (.inr h1)
 have hJin : ∀ b, Jx J (mutS ℓ ⟨o, accs, rs⟩) b → Jx J (mutS ℓs ⟨own, accs, rs⟩) b := fun b ⟨h1, h2⟩ => ⟨h1, fun hb => h2 (hmemS b hb)⟩
 refine ⟨⟨by simp [hlen], ?_, fun b hb => hG.lt b (hmemS b hb), fun b hb => hG.memJ b (hmemS b hb), ?_, ?_, ?_, ?_⟩, hmemS⟩
 ·simp only [mutS]
  rw [List.nodup_append]
  exact ⟨hnd, hnC, fun x hx y hy e => hAC x (hmem x hx) y hy e⟩
 ·intro q hq
  obtain ⟨p, hp⟩ := List.getElem?_of_mem hq
  simp only [hlen]
  exact (hown' p q hp).choose_spec.2.2
 ·intro p b q hb hq
  obtain ⟨i, e1, e2⟩ := hℓs p b hb
  obtain ⟨i', e3, e4, e5⟩ := hown' p q hq
  rw [e1] at e3; cases e3
  exact (hG.own i b _ e2 e4).unren hr e5 hJin
 ·intro ac hac
  exact (hG.accs ac hac).keep (fun x _ hj => ⟨hJin x hj, rfl⟩) (fun _ _ _ => rfl)
 ·intro p hp
  exact (hG.reps p hp).map (fun b _ hb => ⟨hJin b hb, rfl⟩)
theorem StLeR.gen {S : St} (ix : List Nat) (ag : List ASel) (rs : List RSel) {own : List Blk} {accs : List Acc} {reps : List (Value × D)} (hown : pickR S.own ix = some (own.map (Blk.ren (rixD ix)))) (ha : selAccs S ag = some accs) (hr : selReps S rs = some reps)
  (hn : noDup ix = true) (hw : wfB ix.length own = true) (hd : noDup (oldsA ag) = true) (hf : apartN (oldsA ag) (frozR rs) = true) : StLeR ix S ⟨own, accs, reps⟩ := by
 refine ⟨by have := (qe2 hown).1; simpa using this, fun J ℓ w hG => ?_⟩
 have h1 : StLe S ⟨S.own, accs, reps⟩ := by
  refine ⟨Nat.le_refl _, fun J ℓ w hG => ?_⟩
  have hwS : wfB S.own.length S.own = true := wfB_of hG.wf
  have h2 := StLe.gen (S := S) S.own.length ag rs (List.take_length) ha hr (Nat.ble_self_eq_true _) hwS hd hf
  exact h2.2 J ℓ w hG
 obtain ⟨hg, hm⟩ := h1.2 J ℓ w hG
 simp only [← hG.len, List.take_length] at hg hm
 obtain ⟨hg2, hm2⟩ := hg.pick ix hn hown hw
 exact ⟨hg2, fun b hb => hm b (hm2 b hb)⟩
def splitR {α : Type} : List α → Nat → List Nat → List α × List α
 | [], _, _ => ([], [])
 | a :: l, _, [] => ([], a :: l)
 | a :: l, k, j :: js => match Nat.beq j k with
  | true => (a :: (splitR l (k + 1) js).1, (splitR l (k + 1) js).2)
  | false => ((splitR l (k + 1) (j :: js)).1, a :: (splitR l (k + 1) (j :: js)).2)
theorem qf9 {α : Type} : ∀ (l : List α) (k : Nat) (js : List Nat), l.Perm ((splitR l k js).1 ++ (splitR l k js).2)
 | [], _, _ => .refl _
 | a :: l, _, [] => .refl _
 | a :: l, k, j :: js => by
  simp only [splitR]
  split
  ·exact (qf9 l (k + 1) js).cons a
  ·exact ((qf9 l (k + 1) (j :: js)).cons a).trans List.perm_middle.symm
theorem Meets.frameRA {P : Program} {cl : Cal} {args : List SV} {own : List Blk} {accs rest : List Acc} {rs : List (Value × D)} {R : Out → St → Prop} {S : St} {K : Out → St → Prop} {cl' : Cal} {args' : List SV} (h : Meets P cl args ⟨own, accs, rs⟩ R) (ix ax js : List Nat)
  (hac : splitR S.accs 0 ax = (accs, rest)) (hcl' : cl' = cl.ren (rix ix)) (hargs' : args' = qaz (rix ix) args)
  (hn : noDup ix = true) (hown : pickR S.own ix = some (own.map (Blk.ren (rix ix)))) (hw : wfB ix.length own = true)
  (hrs : pickR S.reps js = some rs) (hargs : qr ix.length args = true) (hcl : cl.wf ix.length = true)
  (k : ∀ o s', R o s' → s'.own.map Blk.mut = own.map Blk.mut ∧ ∃ ks, s'.own.map (Blk.ren (rix ix)) = ks ∧ forceL (setAll S.own ix ks) (fun own => forceL (s'.accs ++ rest) (fun accs => forceL (S.reps ++ s'.reps) (fun reps => K (o.ren (rix ix)) ⟨own, accs, reps⟩)))) : Meets P cl' args' S K := by
 simp only [qu] at k
 obtain ⟨h1, h2⟩ := qe2 hown
 have hlen : own.length = ix.length := by simpa using h1.symm
 have hown' : ∀ (p : Nat) (k : Blk), own[p]? = some k → ∃ i, ix[p]? = some i ∧ S.own[i]? = some (k.ren (rix ix)) ∧ k.wf ix.length = true := by
  intro p q hp
  obtain ⟨i, h3, h4⟩ := h2 p (q.ren (rix ix)) (by rw [List.getElem?_map, hp]; rfl)
  exact ⟨i, h3, h4, qd8 hw q (List.mem_of_getElem? hp)⟩
 have hc := rixN_low ix S.own.length
 have hperm : S.accs.Perm (accs ++ rest) := by
  have := qf9 S.accs 0 ax
  rw [hac] at this
  exact this
 refine Meets.frameG (rest := rest) h ix ?_ ?_ hperm (qdy hn) hlen ?_ (qgo hrs) hargs hcl ?_
 ·rw [hcl']
  cases cl with
  | val F => simp only [Cal.ren]; rw [SV.ren_congr hc F hcl]
  | meth x name => simp only [Cal.ren]; rw [SV.ren_congr hc x hcl]
 ·rw [hargs', qao hc args hargs]
 ·intro p q hp
  obtain ⟨i, h1, h2, h3⟩ := hown' p q hp
  exact ⟨i, h1, by rw [← Blk.ren_congr hc h3]; exact h2, h3⟩
 ·intro o s' hR hwo hws
  obtain ⟨hmut, ks, hks, hK⟩ := k o s' hR
  have hsl : s'.own.length = ix.length := by have := congrArg List.length hmut; simpa [hlen] using this
  refine ⟨s'.own, [], by simp, hmut, ?_⟩
  have e1 : s'.own.map (Blk.ren (rixN ix S.own.length)) = ks := by
   rw [← hks]
   refine List.map_congr_left (fun q hq => ?_)
   exact (Blk.ren_congr hc (by rw [← hsl]; exact hws q hq)).symm
  have e2 : o.ren (rixN ix S.own.length) = o.ren (rix ix) := by
   cases o with
   | ret x => simp only [Out.ren]; rw [SV.ren_congr hc x (by rw [← hsl]; exact hwo)]
   | pan x => simp only [Out.ren]; rw [SV.ren_congr hc x (by rw [← hsl]; exact hwo)]
  rw [e1, e2]
  simpa using hK
def D.one : D → Option Value
 | .int k n => some (.int k n)
 | .bool b => some (.bool b)
 | .str s => some (.string s)
 | _ => none
theorem repC_one {J : Nat → Prop} {w : World} {d : D} {u : Value} (h : D.one d = some u) (cs : List Value) : RepC J w d cs ↔ cs = [u] := by
 cases d <;> simp only [D.one, Option.some.injEq, reduceCtorEq] at h <;> subst h <;> simp only [RepC]
theorem qeh {P : Program} {tt : Tab} (hT : TTOK P tt) {t e e' : TypeId} {x ix : SV} {S : St} {K : SV → St → Prop} {a : Option Addr} {n c : Nat} {i : Int} {kk : IntKind} {ds : List D} (j : Nat) (hx : x = .v (.slice a n c)) (hi : ix = .v (.int kk i)) (ht : tt t = some (.slice e 1))
  (hacc : nth S.accs j = some ⟨.slice a n c, 1, e', ds⟩) (h0 : decide (0 ≤ i ∧ i.toNat < ds.length) = true) (h : ∀ b, a = some ⟨b, 0, none⟩ → K (.v (.pointer (some ⟨b, i.toNat, none⟩))) S) : AtPure P (fun ℓ => Instr.indexAt t (x.den ℓ) (ix.den ℓ)) S K := by
 obtain ⟨h0, hlt⟩ := of_decide_eq_true h0
 constructor
 intro J ℓ w hG hJ
 have ha : S.accs[j]? = some ⟨.slice a n c, 1, e', ds⟩ := by rw [← qab]; exact hacc
 rcases (hG.accs _ (List.mem_of_getElem? ha)).two (fun _ _ _ e => by cases e) with ⟨_, hd⟩ | ⟨b, cap, cc, hv, _, _, _, _⟩
 ·simp only at hd; subst hd; simp at hlt
 simp only [Value.slice.injEq] at hv
 obtain ⟨rfl, rfl, rfl⟩ := hv
 have := h b rfl
 rw [← Nat.mul_one i.toNat] at this
 exact (qn1 hT hx hi ht h0 (by omega) this).sem J ℓ w hG hJ
theorem tt_cell {P : Program} {tt : Tab} (hT : TTOK P tt) {t : TypeId} (ht : (∃ z, tt t = some (.cell z)) ∨ tt t = some .str) : (∀ w, (isAgg t).run P w = .ok false w) ∧ ∀ w, (sizeOf t).run P w = .ok 1 w := by
 rcases ht with ⟨z, h⟩ | h
 ·have := hT t _ h; exact ⟨this.agg, this.size⟩
 ·have := (hT t _ h).1; exact ⟨this.agg, this.size⟩
theorem qev {P : Program} {tt : Tab} (hT : TTOK P tt) {t e : TypeId} {x : SV} {S : St} {K : SV → St → Prop} {b n c i : Nat} {d : D} {u : Value} {ds : List D} (j : Nat) (hacc : nth S.accs j = some ⟨.slice (some ⟨b, 0, none⟩) n c, 1, e, ds⟩) (hd : ds[i]? = some d) (hu : D.one d = some u)
  (ht : (∃ z, tt t = some (.cell z)) ∨ tt t = some .str) (hx : x = .v (.pointer (some ⟨b, i, none⟩))) (h : K (.v u) S) : AtSem P (fun ℓ => Instr.loadAt t (x.den ℓ)) S K := by
 subst hx
 constructor
 intro J ℓ w hG hJ
 have ha : S.accs[j]? = some ⟨.slice (some ⟨b, 0, none⟩) n c, 1, e, ds⟩ := by rw [← qab]; exact hacc
 rcases (hG.accs _ (List.mem_of_getElem? ha)).two (fun _ _ _ e => by cases e) with ⟨hv, _⟩ | ⟨b', cap, cc, hv, hb, _, _, hre⟩
 ·cases hv
 simp only [Value.slice.injEq, Option.some.injEq, Addr.mk.injEq, and_true] at hv
 obtain ⟨⟨rfl, _⟩, _, _⟩ := hv
 obtain ⟨hl, hc⟩ := hre.get hd
 rw [repC_one hu] at hc
 simp only [Nat.mul_one] at hc hl
 have hget : cc.toList[i]? = some u := by
  have := congrArg (fun l => l[0]?) hc
  simpa [List.getElem?_take] using this
 have hcell : w.cell? ⟨b, i, none⟩ = some u := by
  simp only [World.cell?, hb]
  simpa using hget
 refine ⟨_, ℓ, S, w, ?_, rfl, List.prefix_refl _, Ext.refl _ _, hG, fun _ hb => .inl hb, h⟩
 simp only [SV.den, Instr.loadAt, Instr.sureAddr, pure_bind, loadVar, Sem.run_bind, (tt_cell hT ht).1, Result.andThen_ok, Bool.false_eq_true, if_false, run_load, hcell]
def mget {κ β : Type} [DecidableEq κ] : List (κ × β) → κ → Option β
 | [], _ => none
 | (k, v) :: r, n => if n = k then some v else mget r n
def mput {κ β : Type} [DecidableEq κ] (n : κ) (v : β) : List (κ × β) → List (κ × β)
 | [] => [(n, v)]
 | (k, u) :: r => if n = k then (k, v) :: r else (k, u) :: mput n v r
def encM {κ β : Type} (f : β → Value) (l : List (κ × β)) : List (κ × Value) := l.map fun p => (p.1, f p.2)
theorem qj8 {β : Type} (f : β → Value) (n : ByteArray) : ∀ (l : List (ByteArray × β)), lookS (encM f l) n = (mget l n).map f
 | [] => rfl
 | (k, v) :: r => by
  have ih := qj8 f n r
  simp only [encM] at ih
  simp only [encM, List.map_cons, lookS, mget]
  split
  ·rfl
  ·exact ih
theorem putS_enc {β : Type} (f : β → Value) (n : ByteArray) (v : β) : ∀ (l : List (ByteArray × β)), putS n (f v) (encM f l) = encM f (mput n v l)
 | [] => rfl
 | (k, u) :: r => by
  have ih := putS_enc f n v r
  simp only [encM] at ih
  simp only [encM, List.map_cons, putS, mput]
  split
  ·rfl
  ·simp only [List.map_cons, ih]
theorem qoo {P : Program} {tt : Tab} (hT : TTOK P tt) {β : Type} (f : β → Value) (z : β) {t k e : TypeId} {x ix : SV} {S : St} {K : SV → St → Prop} {i : Nat} {n : ByteArray} {l : List (ByteArray × β)} {ok : Bool} (ht : tt t = some (.map k e)) (hk : P.underlying k = some .string) (hz : tt e = some (.cell (f z)))
  (hx : x = .mp i) (hi : nth S.own i = some (.obj (mapS (encM f l)))) (hix : ix = .v (.string n))
  (h : K (match ok with | true => .tup [.v (f ((mget l n).getD z)), .v (.bool (mget l n).isSome)] | false => .v (f ((mget l n).getD z))) S) : AtSem P (fun ℓ => Instr.lookup t (x.den ℓ) (ix.den ℓ) ok) S K := by
 refine at_lookupS hT (f z) ht hk (hT e _ hz).zero hx hi hix ?_ ?_
 ·intro v hv
  rw [qj8, Option.map_eq_some_iff] at hv
  obtain ⟨u, hu, rfl⟩ := hv
  cases ok <;> simpa [hu] using h
 ·intro hv
  rw [qj8, Option.map_eq_none_iff] at hv
  cases ok <;> simpa [hv] using h
theorem AtPure.le {P : Program} {m : List Base → Sem Value} {S S' : St} {K : SV → St → Prop} (h : StLe S S') (ho : S'.own = S.own) (k : AtPure P m S' K) : AtPure P m S K := by
 constructor
 intro J ℓ w hG hJ
 obtain ⟨h1, h2⟩ := h.2 J ℓ w hG
 rw [ho, ← hG.len, List.take_length] at h1 h2
 obtain ⟨r, ℓ', S'', a1, a2, a3, a4, a5, a6, a7⟩ := k.sem J ℓ w h1 hJ
 refine ⟨r, ℓ', S'', a1, a2, a3, a4, fun b hb => h2 b (a5 b hb), ?_, a7⟩
 intro i cs hi
 refine a6 i cs ?_
 rw [ho]; exact hi
end
end Go.Tr

namespace Go.Proofs.YthkgcfplebgolaaGreat
section
open Go.Tr Go Go.Proofs.Tryz
set_option maxRecDepth 10000
end

section
open Go.Tr Go Go.Proofs.Tryz
set_option maxRecDepth 10000
abbrev cS (c : UInt8) : SV := .v (.int .u8 c.toNat)
abbrev sS (s : ByteArray) : SV := .v (.string s)
def smallC (c : UInt8) : Bool := decide ((c.toNat : Int) ≥ 97) && decide ((c.toNat : Int) ≤ 122)
def capC (c : UInt8) : Bool := decide ((c.toNat : Int) ≥ 65) && decide ((c.toNat : Int) ≤ 90)
def digC (c : UInt8) : Bool := decide ((c.toNat : Int) ≥ 48) && decide ((c.toNat : Int) ≤ 57)
def nameC (c : UInt8) : Bool := (((smallC c || capC c) || digC c) || (c.toNat : Int) == 95) || (c.toNat : Int) == 39
def nameF (f : UInt8 → Bool) (s : ByteArray) : Bool := match s.data.toList with
 | [] => false
 | c :: l => decide ((c :: l).length ≤ 16) && f c && (c :: l).all nameC
theorem qkn (c : UInt8) : Pure Tryz.prog (fnS 367) [cS c] [] (fun r out => r = bS (smallC c) ∧ out = []) := by
 refine qb (N := 9) (m := 0) (dt := fun _ => none) [] ttOK Tryz.func367 rfl Tryz.call367 Tryz.ntmps367 rfl rfl rfl mixed (by kernel_rfl) ?_
 exact AtRet.pure [] rfl (by simp) ⟨rfl, rfl⟩
theorem qny (c : UInt8) : Pure Tryz.prog (fnS 316) [cS c] [] (fun r out => r = bS (capC c) ∧ out = []) := by
 refine qb (N := 9) (m := 0) (dt := fun _ => none) [] ttOK Tryz.func316 rfl Tryz.call316 Tryz.ntmps316 rfl rfl rfl mixed (by kernel_rfl) ?_
 exact AtRet.pure [] rfl (by simp) ⟨rfl, rfl⟩
theorem digit_spec (c : UInt8) : Pure Tryz.prog (fnS 395) [cS c] [] (fun r out => r = bS (digC c) ∧ out = []) := by
 refine qb (N := 9) (m := 0) (dt := fun _ => none) [] ttOK Tryz.func395 rfl Tryz.call395 Tryz.ntmps395 rfl rfl rfl mixed (by kernel_rfl) ?_
 exact AtRet.pure [] rfl (by simp) ⟨rfl, rfl⟩
theorem qmf (c : UInt8) : Pure Tryz.prog (fnS 360) [cS c] [] (fun r out => r = bS (nameC c) ∧ out = []) := by
 refine qb (N := 21) (m := 0) (dt := fun _ => none) [] ttOK Tryz.func360 rfl Tryz.call360 Tryz.ntmps360 rfl rfl rfl mixed (by kernel_rfl) ?_
 refine (qkn c).at (by simp) rfl rfl ?_
 rintro r out ⟨rfl, rfl⟩
 refine AtGuard.mk (fun h => ?_) (fun h => ?_)
 ·have h : smallC c = false := h
  refine (qny c).at (by simp) rfl rfl ?_
  rintro r out ⟨rfl, rfl⟩
  refine AtGuard.mk (fun h2 => ?_) (fun h2 => ?_)
  ·have h2 : capC c = false := h2
   refine (digit_spec c).at (by simp) rfl rfl ?_
   rintro r out ⟨rfl, rfl⟩
   exact AtRet.pure [] rfl (by simp) ⟨by simp [nameC, h, h2], rfl⟩
  ·have h2 : capC c = true := h2
   exact AtRet.pure [] rfl (by simp) ⟨by simp [nameC, h, h2], rfl⟩
 ·have h : smallC c = true := h
  refine AtGuard.mk (fun h => by cases h) (fun _ => ?_)
  exact AtRet.pure [] rfl (by simp) ⟨by simp [nameC, h], rfl⟩
def AsksByte (F : SV) (f : UInt8 → Bool) : Prop := ∀ c, Pure Tryz.prog (.val F) [cS c] [] (fun r out => r = bS (f c) ∧ out = [])
theorem name_spec (F : SV) (hF : F.wf 0 = true) (f : UInt8 → Bool) (hf : AsksByte F f) (s : ByteArray) : Pure Tryz.prog (fnS 315) [sS s, F] [] (fun r out => r = bS (nameF f s) ∧ out = []) := by
 have hsz : s.size = s.data.toList.length := rfl
 refine qb (N := 32) (m := 0) (dt := fun _ => none) [] ttOK Tryz.func315 rfl Tryz.call315 Tryz.ntmps315 rfl (by simp [qr, SV.wf, hF]) rfl mixed (by kernel_rfl) ?_
 have hN : nameF f s = match s.data.toList with
  | [] => false
  | c :: l => decide ((c :: l).length ≤ 16) && f c && (c :: l).all nameC := rfl
 refine AtGuard.mk (fun h => ?_) (fun h => ?_)
 ·have h : (decide ((s.size : Int) < 1) || decide ((s.size : Int) > 16)) = false := h
  simp only [Bool.or_eq_false_iff, decide_eq_false_iff_not] at h
  obtain ⟨c, l, hl⟩ : ∃ c l, s.data.toList = c :: l := by
   cases hl : s.data.toList with
   | nil => have h0 : s.size = 0 := by rw [hsz, hl]; rfl
            omega
   | cons c l => exact ⟨c, l, rfl⟩
  rw [hl] at hN hsz
  have h16 : (c :: l).length ≤ 16 := by omega
  simp only [h16, decide_true, Bool.true_and] at hN
  refine qcm ttOK rfl rfl rfl (by decide) (b := c) (by rw [hl]; rfl) ?_
  refine (hf c).at (by simp) rfl hF ?_
  rintro r out ⟨rfl, rfl⟩
  refine AtIf.mk (fun h2 => ?_) (fun h2 => ?_)
  ·have h2 : f c = false := by simpa using h2
   exact AtRet.pure [] rfl (by simp) ⟨by rw [hN, h2]; rfl, rfl⟩
  ·have h2 : f c = true := by simpa using h2
   rw [h2, Bool.true_and] at hN
   refine AtLoop.mk ⟨Nat, fun i => [(23, iS i), (22, iS s.size), (0, sS s)], fun _ => ⟨[], [], []⟩,
    fun i => i ≤ (c :: l).length ∧ nameF f s = ((c :: l).drop i).all nameC, fun i => (c :: l).length - i, 0, ⟨Nat.zero_le _, hN⟩, ⟨rfl, rfl, rfl, trivial⟩, StLe.refl _, fun _ _ => ⟨rfl, rfl⟩, ?_⟩
   rintro i ⟨hi, hinv⟩
   refine AtIf.mk (fun h1 => ?_) (fun h1 => ?_)
   ·simp only [decide_eq_true_eq, hsz] at h1
    obtain ⟨x, hx⟩ : ∃ x, (c :: l)[i]? = some x := ⟨_, List.getElem?_eq_getElem (by omega)⟩
    refine qcm ttOK rfl rfl rfl (by omega) (b := x) (by rw [Int.toNat_natCast, hl]; exact hx) ?_
    refine (qmf x).at (by simp) rfl rfl ?_
    rintro r out ⟨rfl, rfl⟩
    rw [qbo hx, List.all_cons] at hinv
    refine AtIf.mk (fun h3 => ?_) (fun h3 => ?_)
    ·have h3 : nameC x = false := by simpa using h3
     exact AtRet.pure [] rfl (by simp) ⟨by rw [hinv, h3]; rfl, rfl⟩
    ·have h3 : nameC x = true := by simpa using h3
     have hw3 : IntKind.i64.wrap (i + 1) = ((i + 1 : Nat) : Int) := wrap_i64 (by omega) (by omega)
     exact ⟨i + 1, ⟨by omega, by rw [hinv, h3]; rfl⟩, by simp only; omega, ⟨by rw [← hw3]; rfl, rfl, rfl, trivial⟩, StLe.to _ _ rfl (by simp) rfl rfl⟩
   ·simp only [decide_eq_false_iff_not, hsz] at h1
    rw [List.drop_of_length_le (by omega)] at hinv
    exact AtRet.pure [] rfl (by simp) ⟨by rw [hinv]; rfl, rfl⟩
 ·have h : (decide ((s.size : Int) < 1) || decide ((s.size : Int) > 16)) = true := h
  refine AtIf.mk (fun _ => ?_) (fun h => by cases h)
  have : nameF f s = false := by
   rw [hN]
   cases hl : s.data.toList with
   | nil => rfl
   | cons c l =>
    rw [hl] at hsz
    simp at hsz h
    simp
    omega
  exact AtRet.pure [] rfl (by simp) ⟨by rw [this], rfl⟩
def isSmallF (s : ByteArray) : Bool := nameF smallC s
def isCapitalF (s : ByteArray) : Bool := nameF capC s
theorem qod (s : ByteArray) : Pure Tryz.prog (fnS 325) [sS s] [] (fun r out => r = bS (isSmallF s) ∧ out = []) := by
 refine qb (N := 5) (m := 0) (dt := fun _ => none) [] ttOK Tryz.func325 rfl Tryz.call325 Tryz.ntmps325 rfl rfl rfl mixed (by kernel_rfl) ?_
 refine (name_spec _ rfl smallC (fun c => qkn c) s).at (by simp) rfl rfl ?_
 rintro r out ⟨rfl, rfl⟩
 exact AtRet.pure [] rfl (by simp) ⟨rfl, rfl⟩
def refNameF (s : ByteArray) : Bool := match s.data.toList with
 | [] => false
 | c :: l => decide ((c :: l).length ≤ 16) && (smallC c || capC c) && (c :: l).all nameC
theorem qgk (c : UInt8) : Pure Tryz.prog (fnS 172) [cS c] [] (fun r out => r = bS (smallC c) ∧ out = []) := by
 refine qb (N := 9) (m := 0) (dt := fun _ => none) [] ttOK Tryz.func172 rfl Tryz.call172 Tryz.ntmps172 rfl rfl rfl mixed (by kernel_rfl) ?_
 exact AtRet.pure [] rfl (by simp) ⟨rfl, rfl⟩
theorem qfn (c : UInt8) : Pure Tryz.prog (fnS 247) [cS c] [] (fun r out => r = bS (smallC c || capC c) ∧ out = []) := by
 refine qb (N := 13) (m := 0) (dt := fun _ => none) [] ttOK Tryz.func247 rfl Tryz.call247 Tryz.ntmps247 rfl rfl rfl mixed (by kernel_rfl) ?_
 refine (qgk c).at (by simp) rfl rfl ?_
 rintro r out ⟨rfl, rfl⟩
 exact AtRet.pure [] rfl (by simp) ⟨rfl, rfl⟩
theorem qld (c : UInt8) : Pure Tryz.prog (fnS 323) [cS c] [] (fun r out => r = bS (nameC c) ∧ out = []) := by
 refine qb (N := 21) (m := 0) (dt := fun _ => none) [] ttOK Tryz.func323 rfl Tryz.call323 Tryz.ntmps323 rfl rfl rfl mixed (by kernel_rfl) ?_
 refine (qfn c).at (by simp) rfl rfl ?_
 rintro r out ⟨rfl, rfl⟩
 exact AtRet.pure [] rfl (by simp) ⟨rfl, rfl⟩
def runF : List UInt8 → Nat
 | [] => 0
 | c :: l => if nameC c then runF l + 1 else 0
theorem runF_all : ∀ l, (runF l = l.length) ↔ l.all nameC = true
 | [] => by simp [runF]
 | c :: l => by
  have := runF_all l
  simp only [runF, List.all_cons, Bool.and_eq_true, List.length_cons]
  split
  ·rename_i h; simp [h, this]
  ·rename_i h; simp [h]
theorem run_spec (s : ByteArray) (hs : s.size ≤ 1000000) : Pure Tryz.prog (fnS 248) [sS s, iS 0] [] (fun r out => r = iS (runF s.data.toList) ∧ out = []) := by
 have hsz : s.size = s.data.toList.length := rfl
 refine qb (N := 18) (m := 0) (dt := fun _ => none) [] ttOK Tryz.func248 rfl Tryz.call248 Tryz.ntmps248 rfl rfl rfl mixed (by kernel_rfl) ?_
 refine AtLoop.mk ⟨Nat, fun i => [(1, iS i), (0, sS s)], fun _ => ⟨[], [], []⟩,
  fun i => i ≤ s.data.toList.length ∧ runF s.data.toList = i + runF (s.data.toList.drop i), fun i => s.data.toList.length - i, 0, ⟨Nat.zero_le _, by simp⟩, ⟨rfl, rfl, trivial⟩, StLe.refl _, fun _ _ => ⟨rfl, rfl⟩, ?_⟩
 rintro i ⟨hi, hinv⟩
 refine AtGuard.mk (fun h => ?_) (fun h => ?_)
 ·have h : decide ((i : Int) < s.size) = true := h
  simp only [decide_eq_true_eq, hsz] at h
  obtain ⟨x, hx⟩ : ∃ x, s.data.toList[i]? = some x := ⟨_, List.getElem?_eq_getElem (by omega)⟩
  refine qcm ttOK rfl rfl rfl (by omega) (b := x) (by rw [Int.toNat_natCast]; exact hx) ?_
  refine (qld x).at (by simp) rfl rfl ?_
  rintro r out ⟨rfl, rfl⟩
  rw [qbo hx, runF] at hinv
  refine AtIf.mk (fun h3 => ?_) (fun h3 => ?_)
  ·have h3 : nameC x = true := h3
   rw [if_pos h3] at hinv
   have hw3 : IntKind.i64.wrap (i + 1) = ((i + 1 : Nat) : Int) := wrap_i64 (by omega) (by omega)
   exact ⟨i + 1, ⟨by omega, by rw [hinv]; omega⟩, by simp only; omega, ⟨by rw [← hw3]; rfl, rfl, trivial⟩, StLe.to _ _ rfl (by simp) rfl rfl⟩
  ·have h3 : nameC x = false := h3
   rw [h3] at hinv
   exact AtRet.pure [] rfl (by simp) ⟨by rw [hinv]; rfl, rfl⟩
 ·have h : decide ((i : Int) < s.size) = false := h
  simp only [decide_eq_false_iff_not, hsz] at h
  rw [List.drop_of_length_le (by omega)] at hinv
  refine AtIf.mk (fun h3 => ?_) (fun h3 => ?_)
  ·cases h3
  ·exact AtRet.pure [] rfl (by simp) ⟨by rw [hinv]; rfl, rfl⟩
theorem qlf (s : ByteArray) : Pure Tryz.prog (fnS 171) [sS s] [] (fun r out => r = bS (refNameF s) ∧ out = []) := by
 have hsz : s.size = s.data.toList.length := rfl
 have hN : refNameF s = match s.data.toList with
  | [] => false
  | c :: l => decide ((c :: l).length ≤ 16) && (smallC c || capC c) && (c :: l).all nameC := rfl
 refine qb (N := 23) (m := 0) (dt := fun _ => none) [] ttOK Tryz.func171 rfl Tryz.call171 Tryz.ntmps171 rfl rfl rfl mixed (by kernel_rfl) ?_
 have hlow : (decide ((s.size : Int) ≥ 1) && decide ((s.size : Int) ≤ 16)) = false → refNameF s = false := by
  intro h
  rw [hN]
  cases hl : s.data.toList with
  | nil => rfl
  | cons c l =>
   rw [hl] at hsz
   simp at hsz h
   simp
   omega
 refine AtGuard.mk (fun h => ?_) (fun h => ?_)
 ·have h : (decide ((s.size : Int) ≥ 1) && decide ((s.size : Int) ≤ 16)) = true := h
  simp only [Bool.and_eq_true, decide_eq_true_eq] at h
  obtain ⟨c, l, hl⟩ : ∃ c l, s.data.toList = c :: l := by
   cases hl : s.data.toList with
   | nil => have h0 : s.size = 0 := by rw [hsz, hl]; rfl
            omega
   | cons c l => exact ⟨c, l, rfl⟩
  have hsz' := hsz
  rw [hl] at hN hsz'
  have h16 : (c :: l).length ≤ 16 := by omega
  simp only [h16, decide_true, Bool.true_and] at hN
  refine qcm ttOK rfl rfl rfl (by decide) (b := c) (by rw [hl]; rfl) ?_
  refine (qfn c).at (by simp) rfl rfl ?_
  rintro r out ⟨rfl, rfl⟩
  refine AtGuard.mk (fun h2 => ?_) (fun h2 => ?_)
  ·have h2 : (smallC c || capC c) = true := h2
   refine (run_spec s (by omega)).at (by simp) rfl rfl ?_
   rintro r out ⟨rfl, rfl⟩
   refine AtRet.pure [] rfl (by simp) ⟨?_, rfl⟩
   rw [hN, h2, Bool.true_and, ← hl]
   have := runF_all s.data.toList
   have e : (((runF s.data.toList : Nat) : Int) == (s.size : Int)) = s.data.toList.all nameC := by
    rw [Bool.eq_iff_iff, ← this, beq_iff_eq, hsz]; omega
   rw [e]
  ·have h2 : (smallC c || capC c) = false := h2
   exact AtRet.pure [] rfl (by simp) ⟨by rw [hN, h2]; rfl, rfl⟩
 ·have h : (decide ((s.size : Int) ≥ 1) && decide ((s.size : Int) ≤ 16)) = false := h
  refine AtGuard.mk (fun h => by cases h) (fun _ => ?_)
  exact AtRet.pure [] rfl (by simp) ⟨by rw [hlow h], rfl⟩
theorem qpb (s : ByteArray) : refNameF s = (isSmallF s || isCapitalF s) := by
 unfold refNameF isSmallF isCapitalF nameF
 cases s.data.toList with
 | nil => rfl
 | cons c l => simp only; cases decide ((c :: l).length ≤ 16) <;> cases smallC c <;> cases capC c <;> cases (c :: l).all nameC <;> rfl
theorem qjx (s : ByteArray) : Pure Tryz.prog (fnS 254) [sS s] [] (fun r out => r = bS (isSmallF s) ∧ out = []) := by
 refine qb (N := 10) (m := 0) (dt := fun _ => none) [] ttOK Tryz.func254 rfl Tryz.call254 Tryz.ntmps254 rfl rfl rfl mixed (by kernel_rfl) ?_
 refine (qlf s).at (by simp) rfl rfl ?_
 rintro r out ⟨rfl, rfl⟩
 refine AtGuard.mk (fun h => ?_) (fun h => ?_)
 ·have h : refNameF s = true := h
  obtain ⟨c, l, hl⟩ : ∃ c l, s.data.toList = c :: l := by
   cases hl : s.data.toList with
   | nil => rw [refNameF, hl] at h; cases h
   | cons c l => exact ⟨c, l, rfl⟩
  refine qcm ttOK rfl rfl rfl (by decide) (b := c) (by rw [hl]; rfl) ?_
  refine (qgk c).at (by simp) rfl rfl ?_
  rintro r out ⟨rfl, rfl⟩
  refine AtRet.pure [] rfl (by simp) ⟨?_, rfl⟩
  simp only [refNameF, isSmallF, nameF, hl, Bool.and_eq_true] at h ⊢
  rw [h.2, h.1.1]
  cases smallC c <;> rfl
 ·have h : refNameF s = false := h
  refine AtRet.pure [] rfl (by simp) ⟨?_, rfl⟩
  rw [qpb, Bool.or_eq_false_iff] at h
  rw [h.1]
end

section
open Go.Tr Go Go.Proofs.Tryz
set_option maxRecDepth 10000
def idxS (v : ByteArray) : List ByteArray → Nat → Int
 | [], _ => -1
 | x :: l, i => if v.toList == x.toList then (i : Int) else idxS v l (i + 1)
def hasS (v : ByteArray) (l : List ByteArray) : Bool := decide (idxS v l 0 ≥ 0)
end

section
open Go.Tr Go Go.Proofs.Tryz
set_option maxRecDepth 10000
inductive Rw where
 | mk (op : Int) (name : ByteArray) (args : List Rw)
def Rw.op : Rw → Int | .mk o _ _ => o
def Rw.name : Rw → ByteArray | .mk _ s _ => s
def Rw.args : Rw → List Rw | .mk _ _ a => a
mutual
def Rw.enc : Rw → D
 | .mk o s a => .agg [.int .i64 o, .str s, .sl 3 (Rw.encL a)]
def Rw.encL : List Rw → List D
 | [] => []
 | t :: ts => t.enc :: Rw.encL ts
 end
theorem Rw.encL_eq : ∀ (l : List Rw), Rw.encL l = l.map Rw.enc
 | [] => rfl
 | t :: ts => by simp only [Rw.encL, List.map_cons, Rw.encL_eq ts]
theorem Rw.encL_length (l : List Rw) : (Rw.encL l).length = l.length := by simp [Rw.encL_eq]
theorem Rw.enc_eq (t : Rw) : t.enc = .agg [.int .i64 t.op, .str t.name, .sl 3 (Rw.encL t.args)] := by cases t; rfl
theorem Rw.encL_get {l : List Rw} {i : Nat} {t : Rw} (h : l[i]? = some t) : (Rw.encL l)[i]? = some (.agg [.int .i64 t.op, .str t.name, .sl 3 (Rw.encL t.args)]) := by
 rw [Rw.encL_eq, List.getElem?_map, h]; cases t; rfl
theorem Rw.ind {motive : Rw → Prop} (h : ∀ t, (∀ x ∈ t.args, motive x) → motive t) (t : Rw) : motive t := by
 induction t using Rw.rec (motive_2 := fun ts => ∀ x ∈ ts, motive x) with
 | nil => rename_i x hx; cases hx
 | cons t ts ih1 ih2 => rename_i x hx; rcases List.mem_cons.1 hx with e | e; (subst e; exact ih1); exact ih2 x e
 | mk op name args ih => exact h _ ih
abbrev tyB : ByteArray := ⟨#[116, 121, 112, 101]⟩
abbrev emB : ByteArray := ⟨#[]⟩
def namedF (s : ByteArray) : Bool := isCapitalF s || (isSmallF s && !(s.toList == tyB.toList))
def rawArgs (op : Int) : Int := if op = 4 ∨ op = 5 ∨ op = 6 ∨ op = 7 then 2 else 0
def rawHas (op : Int) : Bool := op == 2 || op == 5 || op == 7
def rawOp (op : Int) : Bool := decide (1 ≤ op ∧ op ≤ 7)
def okRaw (op : Int) (s : ByteArray) (len : Nat) : Bool := rawOp op && ((len : Int) == rawArgs op) && (rawHas op == namedF s) && (rawHas op || s.toList == emB.toList)
mutual
def Rw.sk : Rw → Tm
 | .mk o s a => .mk (if okRaw o s a.length then 4 else 0) 1 0 (Rw.skL a)
def Rw.skL : List Rw → List Tm
 | [] => []
 | t :: ts => t.sk :: Rw.skL ts
 end
def rawOK (t : Rw) : Bool := (properF t.sk 1 200).1
def emptyRaw (t : Rw) : Bool := ((t.op == 0) && (t.name.toList == emB.toList)) && ((t.args.length : Int) == 0)
end

section
open Go.Tr Go Go.Proofs.Tryz
set_option maxRecDepth 10000
end

section
open Go.Tr Go Go.Proofs.Tryz
set_option maxRecDepth 10000
inductive Pt where
 | mk (op : Int) (sign name : ByteArray) (n : Int) (raw : Rw) (parts : List Pt)
def Pt.op : Pt → Int | .mk o _ _ _ _ _ => o
def Pt.sign : Pt → ByteArray | .mk _ s _ _ _ _ => s
def Pt.name : Pt → ByteArray | .mk _ _ s _ _ _ => s
def Pt.n : Pt → Int | .mk _ _ _ n _ _ => n
def Pt.raw : Pt → Rw | .mk _ _ _ _ r _ => r
def Pt.parts : Pt → List Pt | .mk _ _ _ _ _ p => p
mutual
def Pt.enc : Pt → D
 | .mk o s m n r p => .agg [.int .i64 o, .str s, .str m, .int .i64 n, .agg [.int .i64 r.op, .str r.name, .sl 3 (Rw.encL r.args)], .sl 8 (Pt.encL p)]
def Pt.encL : List Pt → List D
 | [] => []
 | t :: ts => t.enc :: Pt.encL ts
 end
theorem Pt.encL_eq : ∀ (l : List Pt), Pt.encL l = l.map Pt.enc
 | [] => rfl
 | t :: ts => by simp only [Pt.encL, List.map_cons, Pt.encL_eq ts]
theorem Pt.encL_length (l : List Pt) : (Pt.encL l).length = l.length := by simp [Pt.encL_eq]
theorem Pt.enc_eq (t : Pt) : t.enc = .agg [.int .i64 t.op, .str t.sign, .str t.name, .int .i64 t.n, .agg [.int .i64 t.raw.op, .str t.raw.name, .sl 3 (Rw.encL t.raw.args)], .sl 8 (Pt.encL t.parts)] := by cases t; rfl
theorem Pt.encL_get {l : List Pt} {i : Nat} {t : Pt} (h : l[i]? = some t) : (Pt.encL l)[i]? = some (.agg [.int .i64 t.op, .str t.sign, .str t.name, .int .i64 t.n, .agg [.int .i64 t.raw.op, .str t.raw.name, .sl 3 (Rw.encL t.raw.args)], .sl 8 (Pt.encL t.parts)]) := by
 rw [Pt.encL_eq, List.getElem?_map, h]; cases t; rfl
theorem Pt.ind {motive : Pt → Prop} (h : ∀ t, (∀ x ∈ t.parts, motive x) → motive t) (t : Pt) : motive t := by
 induction t using Pt.rec (motive_2 := fun ts => ∀ x ∈ ts, motive x) with
 | nil => rename_i x hx; cases hx
 | cons t ts ih1 ih2 => rename_i x hx; rcases List.mem_cons.1 hx with e | e; (subst e; exact ih1); exact ih2 x e
 | mk op s m n r p ih => exact h _ ih
abbrev plusB : ByteArray := ⟨#[43]⟩
abbrev minusB : ByteArray := ⟨#[45]⟩
abbrev starB : ByteArray := ⟨#[42]⟩
abbrev colonB : ByteArray := ⟨#[58]⟩
abbrev barB : ByteArray := ⟨#[124]⟩
abbrev equB : ByteArray := ⟨#[61]⟩
def ambig : List Pt → Bool
 | p :: q :: _ => (p.op == 1 && q.op == 8) && (q.sign.toList == colonB.toList)
 | _ => false
def swOK (t : Pt) : Bool :=
 if t.op = 1 then true
 else if t.op = 2 then hasS t.sign [plusB, minusB, starB]
 else if t.op = 3 then !(decide (t.n < 0) || decide (t.n > 10000))
 else if t.op = 8 then hasS t.sign [colonB, barB, equB]
 else if t.op = 4 ∨ t.op = 7 then rawOK t.raw
 else if t.op = 5 then !ambig t.parts
 else decide (t.op = 6)
def wName (t : Pt) : ByteArray := if t.op = 1 ∨ t.op = 2 ∨ t.op = 7 then t.name else emB
def wSign (t : Pt) : ByteArray := if t.op = 2 ∨ t.op = 8 then t.sign else emB
def wN (t : Pt) : Int := if t.op = 3 then t.n else 0
def isNm (t : Pt) : Bool := (t.op == 1 || t.op == 2) || t.op == 7
def isRw (t : Pt) : Bool := t.op == 4 || t.op == 7
def isLs (t : Pt) : Bool := t.op == 5 || t.op == 6
def okPt (t : Pt) : Bool := swOK t && (!isNm t || namedF t.name) && ((((t.name.toList == (wName t).toList && t.sign.toList == (wSign t).toList) && t.n == wN t) && (isRw t || emptyRaw t.raw)) && (isLs t || ((Pt.encL t.parts).length : Int) == 0))
mutual
def Pt.sk : Pt → Tm
 | .mk o s m n r p => .mk (if okPt (.mk o s m n r p) then 4 else 0) 1 0 (Pt.skL p)
def Pt.skL : List Pt → List Tm
 | [] => []
 | t :: ts => t.sk :: Pt.skL ts
 end
end

section
open Go.Tr Go Go.Proofs.Tryz
set_option maxRecDepth 10000
end

section
open Go.Tr Go Go.Proofs.Tryz
set_option maxRecDepth 10000
structure It where
 word : ByteArray
 name : ByteArray
 raw : Rw
 parts : List Pt
end
end Go.Proofs.YthkgcfplebgolaaGreat
