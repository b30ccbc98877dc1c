/- Rules for the elements of a slice that the run has made and still may write: its ints are read and written in their places. Conditions stand in each rule. -/
import Derived.Test.YtjjgfenincdgpaaFwP
import Derived.Laws.CopyRow
namespace Go.Tr
open Go
set_option linter.unusedSimpArgs false

/-- A slice that is nil reads as the empty list. -/
theorem Meets.nilRep {P : Program} {cl : Cal} {args : List SV} {own : List Blk} {accs : List Acc} {rs : List (Value × D)} {R : Out → St → Prop} (k : Nat) (h : Meets P cl args ⟨own, accs, (.slice none 0 0, .sl k []) :: rs⟩ R) : Meets P cl args ⟨own, accs, rs⟩ R := by
  intro J ℓ w hG hJ
  refine h J ℓ w ⟨hG.len, hG.nodup, hG.lt, hG.memJ, hG.wf, hG.own, hG.accs, ?_⟩ hJ
  intro p hp
  rcases List.mem_cons.1 hp with e | e
  · subst e
    exact ⟨none, 0, rfl, ⟨Nat.zero_le _, Nat.zero_le _⟩, .inl rfl⟩
  · exact hG.reps p e

/-- What may grow is nil, or lies in a block of its own; it is not longer than 2^60. -/
theorem Meets.accAddr {P : Program} {cl : Cal} {args : List SV} {own : List Blk} {v : Value} {k : Nat} {T : TypeId} {ds : List D} {accs : List Acc} {rs : List (Value × D)} {R : Out → St → Prop}
    (h1 : v = .slice none 0 0 → ds = [] → Meets P cl args ⟨own, ⟨v, k, T, ds⟩ :: accs, rs⟩ R) (h2 : ∀ b cap, v = .slice (some ⟨b, 0, none⟩) ds.length cap → ds.length ≤ 1152921504606846976 → Meets P cl args ⟨own, ⟨v, k, T, ds⟩ :: accs, rs⟩ R) : Meets P cl args ⟨own, ⟨v, k, T, ds⟩ :: accs, rs⟩ R := by
  intro J ℓ w hG hJ
  rcases hG.accs _ (List.mem_cons_self ..) with ⟨hv, hd⟩ | ⟨b, cap, c, hv, _, _, hl, _⟩
  · exact h1 hv hd J ℓ w hG hJ
  · exact h2 b cap hv hl.2 J ℓ w hG hJ

/-- The place of an element of a slice whose block is known. -/
theorem at_index_acc {P : Program} {tt : Tab} (hT : TTOK P tt) {t e : TypeId} {k : Nat} {x ix : SV} {S : St} {K : SV → St → Prop} {b n c : Nat} {i : Int} {kk : IntKind} (hx : x = .v (.slice (some ⟨b, 0, none⟩) n c)) (hi : ix = .v (.int kk i)) (ht : tt t = some (.slice e k))
    (h0 : 0 ≤ i) (hlt : i < n) (h : K (.v (.pointer (some ⟨b, i.toNat * k, none⟩))) S) : AtPure P (fun ℓ => Instr.indexAt t (x.den ℓ) (ix.den ℓ)) S K := by
  subst hx hi
  refine AtPure.val _ rfl (fun ℓ w => ?_) h
  obtain ⟨_, hu, hse⟩ := hT t _ ht
  simp only [Instr.indexAt, SV.den, asIntOf, pure_bind, Sem.run_bind, run_underlying' hu, Result.andThen_ok, Sem.run_pure]
  rw [if_pos ⟨h0, hlt⟩]
  simp only [Sem.run_bind, hse, Result.andThen_ok, Sem.run_pure, addr_add, Nat.zero_add]

/-- An int of a slice that may grow. -/
theorem at_load_acc {P : Program} {tt : Tab} (hT : TTOK P tt) {t e : TypeId} {x : SV} {S : St} {K : SV → St → Prop} {b n c i : Nat} {kk : IntKind} {d : Int} {ds : List D} {z : Value} (j : Nat) (hacc : nth S.accs j = some ⟨.slice (some ⟨b, 0, none⟩) n c, 1, e, ds⟩) (hd : ds[i]? = some (.int kk d))
    (ht : tt t = some (.cell z)) (hx : x = .v (.pointer (some ⟨b, i, none⟩))) (h : K (.v (.int kk d)) S) : AtSem P (fun ℓ => Instr.loadAt t (x.den ℓ)) S K := by
  subst hx
  constructor
  intro J ℓ w hG hJ
  have ha : S.accs[j]? = some ⟨.slice (some ⟨b, 0, none⟩) n c, 1, e, ds⟩ := by rw [← nth_eq]; exact hacc
  rcases hG.accs _ (List.mem_of_getElem? ha) with ⟨hv, _⟩ | ⟨b', cap, cc, hv, hb, _, _, hre⟩
  · cases hv
  simp only [Value.slice.injEq, Option.some.injEq, Addr.mk.injEq, and_true] at hv
  obtain ⟨⟨rfl, _⟩, _, _⟩ := hv
  obtain ⟨hl, hc⟩ := hre.get hd
  simp only [RepC, Nat.mul_one] at hc hl
  have hget : cc.toList[i]? = some (.int kk d) := by
    have := congrArg (fun l => l[0]?) hc
    simpa [List.getElem?_take] using this
  obtain ⟨hagg, _⟩ := hT t _ ht
  have hcell : w.cell? ⟨b, i, none⟩ = some (.int kk d) := by
    simp only [World.cell?, hb]
    simpa using hget
  refine ⟨_, ℓ, S, w, ?_, rfl, List.prefix_refl _, Ext.refl _ _, hG, fun _ hb => .inl hb, h⟩
  simp only [SV.den, Instr.loadAt, Instr.sureAddr, pure_bind, loadVar, Sem.run_bind, hagg, Result.andThen_ok, Bool.false_eq_true, if_false, run_load, hcell]

theorem RepE.setInt {J : Nat → Prop} {w : World} {kk : IntKind} {y : Int} : ∀ {ds : List D} {cs : List Value} {i : Nat}, RepE J w 1 ds cs → i < ds.length → RepE J w 1 (ds.set i (.int kk y)) (cs.set i (.int kk y))
  | d :: ds, cs, 0, h, _ => by
    simp only [RepE] at h
    obtain ⟨c, cs, rfl⟩ : ∃ c r, cs = c :: r := by cases cs with | nil => simp at h | cons c r => exact ⟨c, r, rfl⟩
    simp only [List.set_cons_zero, RepE, List.length_cons, List.take_succ_cons, List.take_zero, List.drop_succ_cons, List.drop_zero, RepC] at h ⊢
    exact ⟨by omega, trivial, h.2.2⟩
  | d :: ds, cs, i + 1, h, hlt => by
    simp only [RepE] at h
    obtain ⟨c, cs, rfl⟩ : ∃ c r, cs = c :: r := by cases cs with | nil => simp at h | cons c r => exact ⟨c, r, rfl⟩
    simp only [List.set_cons_succ, RepE, List.length_cons, List.take_succ_cons, List.take_zero, List.drop_succ_cons, List.drop_zero, List.length_set] at h ⊢
    exact ⟨h.1, h.2.1, RepE.setInt h.2.2 (by simpa using hlt)⟩

/-- An int of a slice that may grow is written. -/
theorem at_store_acc {P : Program} {tt : Tab} (hT : TTOK P tt) {t e : TypeId} {x s : SV} {S : St} {K : SV → St → Prop} {b n c i : Nat} {kk : IntKind} {y : Int} {ds : List D} {z : Value} (j : Nat) (hacc : nth S.accs j = some ⟨.slice (some ⟨b, 0, none⟩) n c, 1, e, ds⟩) (hi : i < ds.length)
    (ht : tt t = some (.cell z)) (hx : x = .v (.pointer (some ⟨b, i, none⟩))) (hs : s = .v (.int kk y)) (h : forceL (setNth S.accs j ⟨.slice (some ⟨b, 0, none⟩) n c, 1, e, ds.set i (.int kk y)⟩) (fun accs => K undefS ⟨S.own, accs, S.reps⟩)) :
    AtSem P (fun ℓ => do Instr.storeAt t (x.den ℓ) (s.den ℓ); pure undef) S K := by
  subst hx hs
  rw [forceL_eq] at h
  constructor
  intro J ℓ w hG hJ
  have ha : S.accs[j]? = some ⟨.slice (some ⟨b, 0, none⟩) n c, 1, e, ds⟩ := by rw [← nth_eq]; exact hacc
  rcases hG.accs _ (List.mem_of_getElem? ha) with ⟨hv, _⟩ | ⟨b', cap, cc, hv, hb, hcs, hle, hre⟩
  · cases hv
  simp only [Value.slice.injEq, Option.some.injEq, Addr.mk.injEq, and_true] at hv
  obtain ⟨⟨rfl, _⟩, rfl, rfl⟩ := hv
  simp only at hb hcs hle hre
  have hsz := size_run hT ht w
  have hicc : i < cc.size := by omega
  have hst := run_storeCells_at P b i e [.int kk y] 0 cc w hb (by simp; omega) (by simp [Value.oneCell'])
  have hset : (cc.toList.take i ++ [.int kk y] ++ cc.toList.drop (i + 1)) = cc.toList.set i (.int kk y) := by
    rw [List.set_eq_take_append_cons_drop, if_pos (by simpa using hicc)]
    simp
  simp only [Nat.add_zero, List.length_cons, List.length_nil, Nat.zero_add, hset] at hst
  have hrow := setRow_heap w b cc (cc.toList.set i (.int kk y)).toArray e (0, 0) hb
  have hgood := hG.regrow (j := j) (a' := ⟨.slice (some ⟨b, 0, none⟩) ds.length c, 1, e, ds.set i (.int kk y)⟩) (w' := w.setRow b (cc.toList.set i (.int kk y)).toArray) hJ ha (by simp [World.setRow])
    (fun x hx hm => setRow_other w b x _ (fun e => hm (by simp [accBlk, e]))) (by simp [accBlk]) (fun x hx => ?_) (fun J' hj => ?_)
  · refine ⟨undefS, ℓ, _, w.setRow b (cc.toList.set i (.int kk y)).toArray, ?_, rfl, List.prefix_refl _, ⟨rfl, rfl, by simp [World.setRow], fun x hx hm => setRow_other w b x _ (fun e => hm ?_)⟩, hgood.1, hgood.2, h⟩
    · have hce : (Value.int kk y).cells.size = 1 := rfl
      have hcl : (Value.int kk y).cells.toList = [.int kk y] := rfl
      simp only [SV.den, Instr.storeAt, Instr.sureAddr, pure_bind, storeVar, Sem.run_bind, hsz, Result.andThen_ok, TK.zeros, List.length_cons, List.length_nil, Nat.zero_add, hce, ne_eq, not_true_eq_false, if_false, hcl, hst, Sem.run_pure, undefS, SV.denL, undef]
    · simp only [mutS]
      exact List.mem_append.2 (.inr (List.mem_flatMap.2 ⟨_, List.mem_of_getElem? ha, by simp [accBlk, e]⟩))
  · simp [accBlk] at hx
    subst hx
    exact ⟨.inl (by simp [accBlk]), by simpa [World.setRow] using lt_of_get hb⟩
  · refine .inr ⟨b, c, _, by simp, hrow, by simpa using hcs, by simpa using hle, ?_⟩
    simp only
    exact RepE.setInt (RepE.map hj 1 _ _ hre) hi
end Go.Tr
