/- Merged texts: FwR Reads RowKit FwS Gx Hand Lexis Strs Raws RawsB. From contracts to the statements' form: how arguments read as data, and what a call that turns nothing leaves. Conditions stand in each rule. How the arguments of the laws read: terms, orders. Condition: each slice that is met weighs no more than the form's own reach. How the four arguments of the first laws read, and what their rows ask. Condition: each slice that is met weighs no more than the form's own reach. Rules for strings: a byte of one, and maps whose keys are strings (made by the run itself). Conditions stand in each rule. Helpers for the texts that gen.py prints: parts of states by their numbers, rules at calls, appends and returns; functions with fuel. Conditions stand in each rule. Contracts proved by hand, in the form that gen.py prints. Conditions stand in each. The contracts of lexis.IsSmall, lexis.IsCapital and trussref01.IsSmall, IsName. No condition. The contracts of slices.Index and slices.Contains at strings, and of trussref02.sign. Condition: the slices read as lists of strings. Raw expressions as plain data; the contracts of syntax.Check and trussref02.Well: both answer whether one is well formed. Condition: the argument reads as a raw expression. The contracts of trussref02's nodes, formed and Well: it answers what syntax.Check does. Condition: the argument reads as a raw expression. -/
import Derived.Test.YtogicnodmgdnbaaGreatDoorQE
import Derived.RowKit3
import Derived.ProofKit
import Derived.OpenShut
import Derived.JoinedCond
import Derived.ReadAgain
import Derived.ChangeReads
import Derived.ChangeArms
import Derived.ChangeSame
import Derived.Deep.CondSized
import Derived.Test.YtogicnodmgdnbaaGreatDoorRows
import Derived.SizedLaws
import Derived.Handed
import Derived.WalkKit
/-! FwR -/
section
namespace Go.Tr
open Go
set_option linter.unusedSimpArgs false

theorem list_of {α : Type} {p : Nat → α → Prop} : ∀ (n : Nat), (∀ i, i < n → ∃ a, p i a) → ∃ l : List α, l.length = n ∧ ∀ i, i < n → ∃ a, l[i]? = some a ∧ p i a
  | 0, _ => ⟨[], rfl, fun i h => by omega⟩
  | n + 1, h => by
    obtain ⟨l, hl, hp⟩ := list_of n (fun i hi => h i (by omega))
    obtain ⟨a, ha⟩ := h n (by omega)
    refine ⟨l ++ [a], by simp [hl], fun i hi => ?_⟩
    by_cases hin : i < n
    · obtain ⟨b, h1, h2⟩ := hp i hin
      exact ⟨b, by rw [List.getElem?_append_left (by omega)]; exact h1, h2⟩
    · have : i = n := by omega
      subst this
      exact ⟨a, by rw [List.getElem?_append_right (by omega)]; simp [hl], ha⟩

theorem RepE.of_index {J : Nat → Prop} {w : World} {k : Nat} : ∀ {ds : List D} {cs : List Value}, (∀ (i : Nat) (d : D), ds[i]? = some d → i * k + k ≤ cs.length ∧ RepC J w d ((cs.drop (i * k)).take k)) → RepE J w k ds cs
  | [], _, _ => by simp [RepE]
  | d :: ds, cs, h => by
    simp only [RepE]
    have h0 := h 0 d rfl
    simp only [Nat.zero_mul, Nat.zero_add, List.drop_zero] at h0
    refine ⟨h0.1, h0.2, RepE.of_index fun i e hi => ?_⟩
    have h1 := h (i + 1) e (by simpa using hi)
    rw [Nat.add_mul, Nat.one_mul] at h1
    refine ⟨by rw [List.length_drop]; omega, ?_⟩
    rw [List.drop_drop, Nat.add_comm k]
    exact h1.2

theorem cells_take {w : World} {b off n k : Nat} {c : Array Value} {T : TypeId} {fz : Nat × Nat} {cs : List Value} (hb : w.heap[b]? = some (.cells c T fz)) (h : w.cells? 0 ((⟨b, off, none⟩ : Addr).add n) k = some cs) :
    (k = 0 ∨ n + k ≤ (c.toList.drop off).length) ∧ ((c.toList.drop off).drop n).take k = cs := by
  obtain ⟨_, hl, hc⟩ := World.cells?_some h
  have he : ((c.toList.drop off).drop n).take k = cs := by
    apply List.ext_getElem?
    intro j
    rw [List.getElem?_take]
    by_cases hj : j < k
    · rw [if_pos hj]
      have := hc j hj
      rw [addr_add, addr_add] at this
      simp only [World.cell?, hb] at this
      rw [← this]
      simp [List.getElem?_drop, Nat.add_assoc]
    · rw [if_neg hj, List.getElem?_eq_none (by omega)]
  refine ⟨?_, he⟩
  have := congrArg List.length he
  rw [List.length_take, List.length_drop, hl] at this
  omega

theorem mem_weightsAll {H : Type} {P : Program} {e : TypeId} {d : DataW H} {y : Nat} (hy : y ∈ d.weights P e) : ∀ {l : List (DataW H)}, d ∈ l → y ∈ DataW.weightsAll P e l
  | [], h => by simp at h
  | x :: l, h => by
    simp only [DataW.weightsAll, List.mem_append]
    rcases List.mem_cons.1 h with r | r
    · subst r; exact .inl hy
    · exact .inr (mem_weightsAll hy r)

section
variable {H : Type} {enc : TypeId × Value → H} {P : Program} {W : World}

/-- A slice reads as a list of data, if its elements read as such. -/
theorem read_slice {t e : TypeId} {k : Nat} (ht : P.underlying t = some (.slice e)) (hk : P.cellsOf e = k) (hk0 : 0 < k) (hby : 1 ≤ P.bytesOf e) {α : Type} (en : α → D) (n : Nat)
    (hel : ∀ m, m < n → ∀ cs x, DataW.trod enc P W 0 (fun _ => true) true m e cs = some x → (∀ y ∈ x.1.weights P e, y ≤ reachBytes) → ∃ a, RepC (fun _ => True) W (en a) cs)
    {cs : List Value} {x : DataW H × List MemPlace} (h : DataW.trod enc P W 0 (fun _ => true) true n t cs = some x) (hw : ∀ y ∈ x.1.weights P t, y ≤ reachBytes) :
    ∃ (l : List α) (a : Option Addr) (c : Nat), cs = [.slice a l.length c] ∧ RepC (fun _ => True) W (.sl k (l.map en)) cs := by
  rcases DataW.trod_slice ht h with ⟨rfl, rfl⟩ | ⟨a, len, cap, elems, rest, m, rfl, rfl, rfl, _, hlc, hcm, hlen, hels, _, _⟩
  · exact ⟨[], none, 0, rfl, none, 0, rfl, ⟨Nat.le_refl _, Nat.zero_le _⟩, .inl rfl⟩
  simp only [DataW.weights, ht] at hw
  have hsz : len ≤ 1152921504606846976 := by
    have h1 := hw _ (List.mem_cons_self ..)
    simp only [List.length_map, hlen] at h1
    have h2 : len ≤ (len + rest.length) * P.bytesOf e := Nat.le_trans (Nat.le_add_right _ _) (Nat.le_mul_of_pos_right _ hby)
    have h3 : reachBytes = 140737488351232 := rfl
    omega
  have hex : ∀ i, i < len → ∃ b : α, ∃ cs', W.cells? 0 (a.add (i * k)) k = some cs' ∧ RepC (fun _ => True) W (en b) cs' := by
    intro i hi
    have h1 := hels i hi
    rw [hk, List.getElem?_eq_getElem (by omega)] at h1
    obtain ⟨cs', h2, h3⟩ := Option.bind_eq_some_iff.1 h1
    obtain ⟨b, hb⟩ := hel m (by omega) cs' _ h3 (fun y hy => hw y (List.mem_cons_of_mem _ (List.mem_append.2 (.inl (mem_weightsAll hy (List.mem_map_of_mem (List.getElem_mem (by omega))))))))
    exact ⟨b, cs', h2, hb⟩
  obtain ⟨l, hl, hp⟩ := list_of len hex
  refine ⟨l, some a, cap, by rw [hl], some a, cap, by rw [List.length_map, hl], ⟨by rw [List.length_map, hl]; exact hlc, by rw [List.length_map, hl]; exact hsz⟩, ?_⟩
  by_cases hz : len = 0
  · left
    have : l = [] := List.eq_nil_of_length_eq_zero (by omega)
    rw [this]; rfl
  right
  -- the block
  obtain ⟨b0, _, cs0, h0, _⟩ := hp 0 (by omega)
  obtain ⟨_, hl0, hc0⟩ := World.cells?_some h0
  have hc := hc0 0 hk0
  rw [List.getElem?_eq_getElem (by omega)] at hc
  have ha0 : (a.add (0 * k)).add 0 = a := by simp [Addr.add]
  rw [ha0] at hc
  simp only [World.cell?] at hc
  split at hc
  · rename_i c T fz hb
    split at hc
    · cases hc
    · rename_i hs
      have hsp : a.spot = none := by cases hq : a.spot with | none => rfl | some v => simp [hq] at hs
      obtain ⟨bk, off, sp⟩ := a
      simp only at hsp
      subst hsp
      refine ⟨bk, off, c, T, fz, rfl, trivial, hb, RepE.of_index fun i d hi => ?_⟩
      rw [List.getElem?_map] at hi
      have hil : i < len := by
        rcases Nat.lt_or_ge i len with h1 | h1
        · exact h1
        · rw [List.getElem?_eq_none (by omega)] at hi; cases hi
      obtain ⟨b', h1, cs', h2, h3⟩ := hp i hil
      rw [h1] at hi
      cases hi
      obtain ⟨h4, h5⟩ := cells_take hb h2
      rw [h5]
      exact ⟨by omega, h3⟩
  · cases hc

/-- What a call that turns nothing leaves. -/
theorem keptBut_of_ext {W W' : World} (h : Ext [] W W') (may : MemPlace → Prop) : W.keptBut W' may := by
  refine ⟨h.os, h.output, fun i hi => ?_⟩
  rw [h.block i hi (by simp)]
  exact (World.keptBut_refl W may).2.2 i hi

theorem frozen_of_ext {W W' : World} (h : Ext [] W W') {a : Addr} (ha : a.block < W.heap.size) : W'.frozen? a = W.frozen? a := by
  simp only [World.frozen?, h.block a.block ha (by simp)]

theorem sameAt_of_ext {W W' : World} (h : Ext [] W W') {p : MemPlace} (hp : p.block < W.heap.size) : W.sameAt W' p := by
  cases p with
  | cell b off =>
    simp only [World.sameAt, World.cell?]
    rw [h.block b hp (by simp)]
  | map b => exact h.block b hp (by simp)

theorem trodAll_carry {W' : World} {base : Nat} {spare : Nat → Bool} {held : Bool} : ∀ {ts : List TypeId} {vs : List Value} {ds : List (DataW H)} {ps : List MemPlace}, DataW.TrodAll enc P W base spare held ts vs ds ps → (∀ p ∈ ps, W.sameAt W' p) → DataW.TrodAll enc P W' base spare held ts vs ds ps
  | [], [], [], _, h, _ => h
  | _ :: _, _ :: _, _ :: _, _, ⟨p, q, ⟨n, h1⟩, h2, e⟩, hs => ⟨p, q, ⟨n, DataW.trod_carry n _ _ _ h1 (fun x hx => hs x (by rw [e]; exact List.mem_append_left _ hx))⟩, trodAll_carry h2 (fun x hx => hs x (by rw [e]; exact List.mem_append_right _ hx)), e⟩

theorem trodAll_len {base : Nat} {spare : Nat → Bool} {held : Bool} : ∀ {ts : List TypeId} {vs : List Value} {ds : List (DataW H)} {ps : List MemPlace}, DataW.TrodAll enc P W base spare held ts vs ds ps → ds.length = ts.length
  | [], [], [], _, _ => rfl
  | _ :: _, _ :: _, _ :: _, _, ⟨_, _, _, h2, _⟩ => by simp only [List.length_cons, trodAll_len h2]

/-- A law's row: the call answers true and turns nothing. -/
theorem post_true {f : Func} {s : ChangeSpec} {fresh handsOn again : Bool} {t : TypeId} {W W' : World} {args : Array Value} {ds gs : List (DataW H)} {before : List MemPlace} (K : Kids P (· < P.types.size)) (hz : ∀ t e, t < P.types.size → P.underlying t = some (.slice e) → 0 < P.cellsOf e)
    (hW : DataW.Whole enc P f.params.toList s.vars false W args.toList ds gs before) (hv : s.vars = []) (hT : ∀ t ∈ f.params.toList, t < P.types.size)
    (hs : ∀ ds : List (DataW H), ds.length = f.params.size → s.fn H ds = { results := [.lit (.bool true)], args := ds }) (hr : f.resultTypes = #[t]) (ht : P.underlying t = some .bool) (hx : Ext [] W W') :
    s.post enc P f false fresh handsOn again W args (.bool true) W' := by
  have hW0 := hW
  obtain ⟨p, q, hA, hV, rfl, hfz, hnd⟩ := hW0
  rw [hv] at hV
  obtain ⟨rfl, rfl⟩ := Go.ChangeShapes.trodVars_none hV
  have hlen : (ds ++ ([] : List (DataW H))).length = f.params.size := by
    rw [List.append_nil]
    have := trodAll_len hA
    simpa using this
  have hfn := hs (ds ++ []) hlen
  rw [List.append_nil] at hW
  have hlt : ∀ x ∈ p, x.block < W.heap.size := fun x hx => hW.lt x hx
  have hcar := trodAll_carry hA (fun x hx' => sameAt_of_ext hx (hlt x hx'))
  have hargs : ∀ sp : Nat → Bool, (∀ x ∈ p, sp x.block = true) → DataW.TrodAll enc P W' 0 sp true f.params.toList args.toList ds p := fun sp hsp => hcar.respare K hz hT hsp
  have hres : ∀ (b : Nat) (sp : Nat → Bool) (hd : Bool), DataW.TrodAll enc P W' b sp hd f.resultTypes.toList ((Value.bool true).resultList f.resultTypes.size) [.lit (.bool true)] [] := by
    intro b sp hd
    rw [hr]
    exact trodAll_cons_mk (Go.RowKit.shut_bool ht _) Go.ChangeShapes.trodAll_mk0
  have hok : ∀ (j : Nat) (t' : TypeId) (r : Value), f.resultTypes[j]? = some t' → ((Value.bool true).resultList f.resultTypes.size)[j]? = some r → Value.okWide P W' .any 0 t' r := Go.RowKit.ok_one hr rfl (Go.RowKit.okWide_bool_mk ht _)
  have hold : ∀ x ∈ p, (fun b => decide (b < W.heap.size)) x.block = true := fun x hx => by simpa using hlt x hx
  refine ⟨ds, [], p, [], p, [], by rw [hv]; simpa [hv] using hW, ?_, ?_, ?_, World.keptBut_mono (fun x hx => ⟨hx, .inr (.inl hx)⟩) (keptBut_of_ext hx (· ∈ p)), fun _ => ?_⟩
  · rw [hfn]; exact hres _ _ _
  · rw [hfn, List.append_nil]; exact hargs _ hold
  · rw [hfn, hv]; exact rfl
  · refine ⟨hok, _, [], ([] ++ p) ++ [], ⟨[] ++ p, [], Go.ChangeShapes.trodAll_append (hargs _ (fun _ _ => rfl)) (hres _ _ _), by rw [hv]; exact rfl, rfl, ?_, by intro h; cases h⟩, ?_⟩
    · intro b off hp
      have hp : MemPlace.cell b off ∈ p := by simpa using hp
      rw [frozen_of_ext hx (hlt _ hp)]
      exact hfz b off (by simpa using hp)
    · intro y hy _
      simpa using hy
end

/-- A contract of a call that writes nothing, as the statements want it. -/
theorem Pure.calls {P : Program} {f : FuncId} {args : List SV} {rs : List (Value × D)} {R : SV → List (Value × D) → Prop} (h : Pure P (.val (.fn (.func f) [] [])) args rs R) (hc : ∀ ag w, (callFunc f ag).run P w = .ok (.enter f ag) w) {W : World} (hr : ∀ p ∈ rs, Rep (fun _ => True) W p.1 p.2) :
    Calls P f (SV.denL [] args).toArray W (fun e W' => ∃ r out, e = .returned (r.den []) ∧ R r out ∧ Ext [] W W') := by
  have hm : mutS [] (⟨[], [], rs⟩ : St) = [] := rfl
  have hG : Good (fun _ => True) [] ⟨[], [], rs⟩ W := by
    refine ⟨rfl, by simp [hm], by simp [hm], by simp [hm], by simp, by simp, by simp, ?_⟩
    intro p hp
    rw [hm]
    exact (hr p hp).map (fun b _ _ => ⟨⟨trivial, by simp⟩, rfl⟩)
  obtain ⟨nx, h1, h2⟩ := h (fun _ => True) [] W hG (fun _ _ => trivial)
  simp only [Cal.sem, SV.den, SV.denL, Deferred.ofValue, Sem.run_bind, Sem.run_pure, Result.andThen_ok, invoke] at h1
  have h3 := hc (SV.denL [] args).toArray W
  have h4 : nx = .enter f (SV.denL [] args).toArray := by
    have h5 := h1
    simp only [List.append_nil, Array.append_empty, Array.empty_append] at h5
    rw [h3] at h5
    cases h5
    rfl
  subst h4
  refine (callsIn_wide (n := 0)).1 (CallsIn.mono h2 ?_)
  rintro e w' ⟨ℓ', o, S', rfl, _, _, hx, hG', _, r, out, rfl, rfl, hwf, hR⟩
  have hl : ℓ' = [] := by have := hG'.len; simpa using this
  subst hl
  exact ⟨r, out, rfl, hR, hx⟩
end Go.Tr
end

/-! Reads -/
section
namespace Go.Proofs.YtogicnodmgdnbaaGreatDoor
open Go.Tr Go
set_option maxRecDepth 10000

section
variable {H : Type} {enc : TypeId × Value → H} {W : World}

end
end Go.Proofs.YtogicnodmgdnbaaGreatDoor
end

/-! RowKit -/
section
namespace Go.Proofs.YtogicnodmgdnbaaGreatDoor
open Go.Tr Go
open Go.ChangeShapes Go.WideShapes Go.ChangeAt Go.RowKit
set_option maxRecDepth 10000

theorem own : ownKnob Tryz.prog.godebug = none := by kernel_rfl
theorem kids : Kids Tryz.prog (· < Tryz.prog.types.size) := kids_rows (by kernel_rfl) (by kernel_rfl)
theorem full : ∀ t e, t < Tryz.prog.types.size → Tryz.prog.underlying t = some (.slice e) → 0 < Tryz.prog.cellsOf e := slices_full_of Tryz.prog (by kernel_rfl)

theorem all_le {l : List Nat} (h : l.all (· ≤ reachBytes) = true) : ∀ y ∈ l, y ≤ reachBytes := fun y hy => by simpa using List.all_eq_true.1 h y hy

section
variable {H : Type} {enc : TypeId × Value → H} {W : World}

end
end Go.Proofs.YtogicnodmgdnbaaGreatDoor
end

/-! FwS -/
section
namespace Go.Tr
open Go
set_option linter.unusedSimpArgs false

theorem bytes_get (s : ByteArray) (i : Nat) : s[i]? = s.data[i]? := by
  simp [getElem?_def]; rfl

theorem strEq (a b : ByteArray) : (a.toList == b.toList) = decide (a = b) := by
  rw [Bool.eq_iff_iff]
  simp only [ByteArray.toList_eq, beq_iff_eq, decide_eq_true_eq]
  constructor
  · intro h
    cases a; cases b
    simp only [Array.toList_inj] at h
    subst h; rfl
  · intro h; rw [h]

theorem strBeq (a b : ByteArray) : (a == b) = decide (a = b) := by
  cases a with | mk a => cases b with | mk b =>
  have h : ((⟨a⟩ : ByteArray) == ⟨b⟩) = (a == b) := by
    first | rfl | simp [BEq.beq]
  rw [h, Bool.eq_iff_iff]; simp

/-- s[i] of a string. -/
theorem at_index_str {P : Program} {tt : Tab} (hT : TTOK P tt) {t : TypeId} {x ix : SV} {S : St} {K : SV → St → Prop} {s : ByteArray} {i : Int} {kk : IntKind} {b : UInt8} (hx : x = .v (.string s)) (hi : ix = .v (.int kk i)) (ht : tt t = some .str) (h0 : 0 ≤ i) (hb : s.data.toList[i.toNat]? = some b)
    (h : K (.v (.int .u8 b.toNat)) S) : AtPure P (fun ℓ => Instr.index t (x.den ℓ) (ix.den ℓ)) S K := by
  subst hx hi
  refine AtPure.val _ rfl (fun ℓ w => ?_) h
  have hu := (hT t _ ht).2
  have hb' : s.data[i.toNat]? = some b := by rw [← Array.getElem?_toList]; exact hb
  simp only [Instr.index, SV.den, asIntOf, pure_bind, Sem.run_bind, run_underlying' hu, Result.andThen_ok, if_pos h0, bytes_get, hb', Sem.run_pure]

/-- The entries of a map with strings as keys, the n-th one laid as the n-th. -/
def entriesS : List (ByteArray × Value) → Nat → List MapEntry
  | [], _ => []
  | (k, v) :: r, i => ⟨.string k, v, i⟩ :: entriesS r (i + 1)

def mapS (l : List (ByteArray × Value)) : Obj := .map (entriesS l 0).toArray l.length

def lookS : List (ByteArray × Value) → ByteArray → Option Value
  | [], _ => none
  | (k, v) :: r, n => if n = k then some v else lookS r n

def putS (n : ByteArray) (v : Value) : List (ByteArray × Value) → List (ByteArray × Value)
  | [] => [(n, v)]
  | (k, u) :: r => if n = k then (k, v) :: r else (k, u) :: putS n v r

theorem entriesS_append : ∀ (l l' : List (ByteArray × Value)) (i : Nat), entriesS (l ++ l') i = entriesS l i ++ entriesS l' (i + l.length)
  | [], l', i => by simp [entriesS]
  | (k, v) :: r, l', i => by
    simp only [List.cons_append, entriesS, entriesS_append r l', List.length_cons]
    congr 3; omega

theorem sameNow_str (a b : ByteArray) : Instr.sameNow .string (.string a) (.string b) = some (decide (a = b)) := by
  simp only [Instr.sameNow, strBeq]

theorem findNow_S (n : ByteArray) : ∀ (l : List (ByteArray × Value)) (i j : Nat), Instr.findNow .string (.string n) (entriesS l i) j =
    some (match l.findIdx? (fun p => n = p.1) with
      | some m => (l[m]?).map (fun p => (j + m, p.2))
      | none => none)
  | [], i, j => by simp [entriesS, Instr.findNow]
  | (k, v) :: r, i, j => by
    simp only [entriesS, Instr.findNow, sameNow_str]
    by_cases h : n = k
    · subst h; simp [List.findIdx?_cons]
    · simp only [h, decide_false, findNow_S n r (i + 1) (j + 1), List.findIdx?_cons]
      cases hf : r.findIdx? (fun p => n = p.1) with
      | none => simp
      | some m =>
        have e : j + 1 + m = j + (m + 1) := by omega
        simp [e]

theorem lookS_idx (n : ByteArray) : ∀ (l : List (ByteArray × Value)), lookS l n = match l.findIdx? (fun p => n = p.1) with
    | some m => (l[m]?).map (·.2)
    | none => none
  | [] => rfl
  | (k, v) :: r => by
    simp only [lookS, List.findIdx?_cons]
    by_cases h : n = k
    · subst h; simp
    · rw [if_neg h, lookS_idx n r]
      simp only [h, decide_false]
      cases hf : r.findIdx? (fun p => n = p.1) with
      | none => simp
      | some m => simp

theorem putS_none (n : ByteArray) (v : Value) : ∀ (l : List (ByteArray × Value)), l.findIdx? (fun p => n = p.1) = none → putS n v l = l ++ [(n, v)]
  | [], _ => rfl
  | (k, u) :: r, h => by
    simp only [List.findIdx?_cons] at h
    by_cases hk : n = k
    · subst hk; simp at h
    · simp only [putS, if_neg hk, List.cons_append]
      rw [putS_none n v r]
      cases hf : r.findIdx? (fun p => n = p.1) with
      | none => rfl
      | some m => rw [hf] at h; simp [hk] at h

theorem putS_some (n : ByteArray) (v : Value) : ∀ (l : List (ByteArray × Value)) (m i : Nat), l.findIdx? (fun p => n = p.1) = some m → (entriesS l i).modify m (fun e => { e with key := .string n, val := v }) = entriesS (putS n v l) i ∧ (putS n v l).length = l.length
  | [], m, i, h => by simp at h
  | (k, u) :: r, m, i, h => by
    simp only [List.findIdx?_cons] at h
    by_cases hk : n = k
    · subst hk
      simp at h
      subst h
      simp [putS, entriesS]
    · simp only [hk, decide_false] at h
      cases hf : r.findIdx? (fun p => n = p.1) with
      | none => rw [hf] at h; simp at h
      | some m' =>
        rw [hf] at h
        simp at h
        subst h
        obtain ⟨h1, h2⟩ := putS_some n v r m' (i + 1) hf
        simp only [putS, if_neg hk, entriesS, List.modify_succ_cons, h1, List.length_cons, h2, and_self]

theorem entriesS_key (l : List (ByteArray × Value)) (i m : Nat) : ((entriesS l i)[m]?).map (·.key) = (l[m]?).map (fun p => Value.string p.1) := by
  induction l generalizing i m with
  | nil => simp [entriesS]
  | cons p r ih =>
    obtain ⟨k, v⟩ := p
    cases m with
    | zero => simp [entriesS]
    | succ m => simpa [entriesS] using ih (i + 1) m

theorem run_checkKey_str {P : Program} {k : TypeId} (hk : P.underlying k = some .string) (b : Bool) (n : ByteArray) (w : World) : (Instr.checkKey b 10000 k (.string n)).run P w = .ok () w := by
  unfold Instr.checkKey
  simp [run_underlying hk]

/-- A map is made. -/
theorem at_makeMapS {P : Program} {t : TypeId} {S : St} {K : SV → St → Prop} (h : forceL (S.own ++ [.obj (mapS [])]) (fun own => putOwn S own (fun S' => K (.mp S.own.length) S'))) : AtSem P (fun ℓ => Instr.makeMap t (denO ℓ none)) S K := by
  rw [forceL_eq, putOwn_eq] at h
  refine at_makeMap .i64 ?_
  rw [forceL_eq, putOwn_eq]
  exact h

/-- m[n], with or without the word whether it is there. -/
theorem at_lookupS {P : Program} {tt : Tab} (hT : TTOK P tt) {t k e : TypeId} {x ix : SV} {S : St} {K : SV → St → Prop} {i : Nat} {n : ByteArray} {l : List (ByteArray × Value)} {ok : Bool} (z : Value) (ht : tt t = some (.map k e)) (hk : P.underlying k = some .string) (hz : ∀ w, (zeroValue e).run P w = .ok z w)
    (hx : x = .mp i) (hi : nth S.own i = some (.obj (mapS l))) (hix : ix = .v (.string n))
    (h1 : ∀ v, lookS l n = some v → K (if ok then .tup [.v v, .v (.bool true)] else .v v) S) (h2 : lookS l n = none → K (if ok then .tup [.v z, .v (.bool false)] else .v z) S) : AtSem P (fun ℓ => Instr.lookup t (x.den ℓ) (ix.den ℓ) ok) S K := by
  subst hx hix
  constructor
  intro J ℓ w hG hJ
  obtain ⟨b, hb, hk', hbl, hoff, hh⟩ := own_obj hG hi
  have hu := (hT t _ ht).2
  have hrun : (Instr.lookup t ((SV.mp i).den ℓ) ((SV.v (.string n)).den ℓ) ok).run P w = .ok ((match lookS l n with
      | some v => (if ok then SV.tup [.v v, .v (.bool true)] else .v v)
      | none => (if ok then .tup [.v z, .v (.bool false)] else .v z)).den ℓ) w := by
    simp only [Instr.lookup, SV.den, Sem.run_bind, run_underlying' hu, Result.andThen_ok]
    have hg := run_getMap (P := P) hh
    rw [hbl]
    simp only [Sem.run_bind, hg, Result.andThen_ok, Sem.run_pure]
    simp only [run_checkKey_str hk, Result.andThen_ok, Instr.findKey, Sem.run_bind, run_underlying hk, findNow_S]
    rw [lookS_idx]
    cases hf : l.findIdx? (fun p => n = p.1) with
    | none => simp [hz, Result.andThen]; cases ok <;> simp [SV.den, SV.denL]
    | some m =>
      have hlt : m < l.length := by
        obtain ⟨hlt, _⟩ := List.findIdx?_eq_some_iff_getElem.1 hf
        exact hlt
      simp only [List.getElem?_eq_getElem hlt, Option.map_some, Sem.run_pure, Result.andThen_ok]
      cases ok <;> simp [SV.den, SV.denL]
  cases hl : lookS l n with
  | some v =>
    rw [hl] at hrun
    exact ⟨_, ℓ, S, w, hrun, by cases ok <;> rfl, List.prefix_refl _, Ext.refl _ _, hG, fun b hb => .inl hb, h1 v hl⟩
  | none =>
    rw [hl] at hrun
    exact ⟨_, ℓ, S, w, hrun, by cases ok <;> rfl, List.prefix_refl _, Ext.refl _ _, hG, fun b hb => .inl hb, h2 hl⟩

/-- m[n] = x. -/
theorem at_mapPutS {P : Program} {tt : Tab} (hT : TTOK P tt) {t k e : TypeId} {x ix y : SV} {S : St} {K : SV → St → Prop} {i : Nat} {n : ByteArray} {l : List (ByteArray × Value)} (v : Value) (ht : tt t = some (.map k e)) (hk : P.underlying k = some .string)
    (hx : x = .mp i) (hi : nth S.own i = some (.obj (mapS l))) (hix : ix = .v (.string n)) (hy : ∀ ℓ, y.den ℓ = v)
    (h : forceL (setNth S.own i (.obj (mapS (putS n v l)))) (fun own => putOwn S own (fun S' => K undefS S'))) : AtSem P (fun ℓ => do Instr.mapUpdate t (x.den ℓ) (ix.den ℓ) (y.den ℓ); pure undef) S K := by
  subst hx hix
  rw [forceL_eq, putOwn_eq] at h
  constructor
  intro J ℓ w hG hJ
  obtain ⟨b, hb, hk', hbl, hoff, hh⟩ := own_obj hG hi
  have hu := (hT t _ ht).2
  have hrun : (Instr.mapUpdate t ((SV.mp i).den ℓ) ((SV.v (.string n)).den ℓ) (y.den ℓ)).run P w = .ok () (w.putObj b.block (mapS (putS n v l))) := by
    simp only [Instr.mapUpdate, SV.den, hy, Sem.run_bind, run_underlying' hu, Result.andThen_ok, hbl]
    have hg := run_getMap (P := P) hh
    simp only [hg, Result.andThen_ok, run_checkKey_str hk, Instr.findKey, Sem.run_bind, run_underlying hk, findNow_S]
    cases hf : l.findIdx? (fun p => n = p.1) with
    | none =>
      simp only [Sem.run_pure, Result.andThen_ok]
      rw [run_setMap _ hh, putS_none n v l hf]
      simp [mapS, entriesS_append, entriesS]
    | some m =>
      obtain ⟨hlt, hpm, _⟩ := List.findIdx?_eq_some_iff_getElem.1 hf
      simp only [decide_eq_true_eq] at hpm
      simp only [List.getElem?_eq_getElem hlt, Option.map_some, Sem.run_pure, Result.andThen_ok, Nat.zero_add]
      have hkey : (((entriesS l 0).toArray[m]?).map (·.key)).getD (.string n) = .string n := by
        have := entriesS_key l 0 m
        simp only [List.getElem?_toArray]
        rw [this, List.getElem?_eq_getElem hlt]
        simp [← hpm]
      rw [hkey]
      have hst : (Instr.keyThatStays (.string n) (.string n)).run P w = .ok (.string n) w := by simp [Instr.keyThatStays, Instr.sameBits, strBeq]
      simp only [Sem.run_bind, hst, Result.andThen_ok]
      rw [run_setMap _ hh]
      obtain ⟨h1, h2⟩ := putS_some n v l m 0 hf
      simp only [mapS, h2]
      rw [← h1]
      simp
  obtain ⟨g1, g2, g3⟩ := hG.putObj (k' := .obj (mapS (putS n v l))) hk' hb rfl rfl rfl (mapS (putS n v l)) ⟨hoff, World.putObj_heap_same (lt_of_get hh)⟩
  refine ⟨undefS, ℓ, _, w.putObj b.block (mapS (putS n v l)), ?_, rfl, List.prefix_refl _, g1, g2, g3, h⟩
  simp only [Sem.run_bind, hrun, Result.andThen_ok, Sem.run_pure]
  rfl
end Go.Tr
end

/-! Gx -/
section
namespace Go.Tr
open Go
set_option linter.unusedSimpArgs false

theorem bind_some {α β : Type} {x : Option α} {f : α → Option β} {r : β} (h : x.bind f = some r) : ∃ y, x = some y ∧ f y = some r := by
  cases x with
  | none => cases h
  | some y => exact ⟨y, rfl, h⟩
theorem cond_t {α : Type} {b : Bool} {A B : Option α} {r : α} (hb : b = true) (h : cond b A B = some r) : A = some r := by subst hb; exact h
theorem cond_f {α : Type} {b : Bool} {A B : Option α} {r : α} (hb : b = false) (h : cond b A B = some r) : B = some r := by subst hb; exact h
theorem cond_need {α : Type} {b : Bool} {A : Option α} {r : α} (h : cond b A none = some r) : b = true ∧ A = some r := by
  cases b with
  | true => exact ⟨rfl, h⟩
  | false => cases h
theorem ff {A : Prop} (h : false = true) : A := by cases h
theorem tf {A : Prop} (h : true = false) : A := by cases h

/-- l[i], if there is one. -/
def idx {α : Type} (l : List α) (i : Int) : Option α := cond (decide (0 ≤ i)) l[i.toNat]? none
theorem idx_some {α : Type} {l : List α} {i : Int} {x : α} (h : idx l i = some x) : 0 ≤ i ∧ l[i.toNat]? = some x := by
  obtain ⟨h1, h2⟩ := cond_need h
  exact ⟨of_decide_eq_true h1, h2⟩
theorem idx_nat {α : Type} (l : List α) (i : Nat) : idx l (i : Int) = l[i]? := by simp [idx]

def pickR {α : Type} (l : List α) : List Nat → Option (List α)
  | [] => some []
  | j :: js => match nth l j, pickR l js with
    | some x, some r => some (x :: r)
    | _, _ => none

theorem pickR_mem {α : Type} {l : List α} : ∀ {js : List Nat} {r : List α}, pickR l js = some r → ∀ p ∈ r, p ∈ l
  | [], r, h, p, hp => by cases h; cases hp
  | j :: js, r, h, p, hp => by
    simp only [pickR] at h
    split at h
    · rename_i x r' h1 h2
      cases h
      rcases List.mem_cons.1 hp with e | e
      · subst e; exact List.mem_of_getElem? (by rw [← nth_eq]; exact h1)
      · exact pickR_mem h2 p e
    · cases h

theorem pickR_get {α : Type} {l : List α} : ∀ {js : List Nat} {r : List α}, pickR l js = some r → js.length = r.length ∧ ∀ (p : Nat) (x : α), r[p]? = some x → ∃ i, js[p]? = some i ∧ l[i]? = some x
  | [], r, h => by cases h; exact ⟨rfl, fun p x hp => by simp at hp⟩
  | j :: js, r, h => by
    simp only [pickR] at h
    split at h
    · rename_i x r' h1 h2
      cases h
      obtain ⟨h3, h4⟩ := pickR_get h2
      refine ⟨by simp [h3], fun p y hp => ?_⟩
      cases p with
      | zero => simp at hp; subst hp; exact ⟨j, rfl, by rw [← nth_eq]; exact h1⟩
      | succ p => exact h4 p y (by simpa using hp)
    · cases h

theorem Pure.atR {P : Program} {cl : Cal} {args : List SV} {rs : List (Value × D)} {R : SV → List (Value × D) → Prop} {S : St} {K : Out → St → Prop} (h : Pure P cl args rs R) (js : List Nat) (hrs : pickR S.reps js = some rs) (hargs : SV.wfL 0 args = true) (hcl : cl.wf 0 = true)
    (k : ∀ r out, R r out → addReps S out (fun S' => K (.ret r) S')) : Meets P cl args S K := h.at (pickR_mem hrs) hargs hcl k

def noDup : List Nat → Bool
  | [] => true
  | j :: js => !js.contains j && noDup js
theorem noDup_spec : ∀ {l : List Nat}, noDup l = true → l.Nodup
  | [], _ => .nil
  | j :: js, h => by
    simp only [noDup, Bool.and_eq_true, Bool.not_eq_true', List.contains_eq_mem, decide_eq_false_iff_not] at h
    exact List.nodup_cons.2 ⟨h.1, noDup_spec h.2⟩

/-- At a call that is handed own blocks, by their numbers, and hands them back, and data. -/
theorem Meets.frameR {P : Program} {cl : Cal} {args : List SV} {own : List Blk} {rs : List (Value × D)} {R : Out → St → Prop} {S : St} {K : Out → St → Prop} {cl' : Cal} {args' : List SV} (h : Meets P cl args ⟨own, [], rs⟩ R) (ix js : List Nat)
    (hcl' : cl' = cl.ren (rix ix)) (hargs' : args' = SV.renL (rix ix) args)
    (hn : noDup ix = true) (hown : pickR S.own ix = some (own.map (Blk.ren (rix ix)))) (hw : wfB ix.length own = true)
    (hrs : pickR S.reps js = some rs) (hargs : SV.wfL ix.length args = true) (hcl : cl.wf ix.length = true)
    (k : ∀ o s', R o s' → s'.accs = [] ∧ s'.own.map Blk.mut = own.map Blk.mut ∧ ∃ ks, s'.own.map (Blk.ren (rix ix)) = ks ∧ forceL (setAll S.own ix ks) (fun own => putOwn S own (fun S1 => addReps S1 s'.reps (fun S' => K (o.ren (rix ix)) S')))) : Meets P cl' args' S K := by
  obtain ⟨h1, h2⟩ := pickR_get hown
  refine Meets.frame h ix hcl' hargs' (noDup_spec hn) (by simpa using h1.symm) ?_ (pickR_mem hrs) hargs hcl k
  intro p q hp
  obtain ⟨i, h3, h4⟩ := h2 p (q.ren (rix ix)) (by rw [List.getElem?_map, hp]; rfl)
  exact ⟨i, h3, h4, wfB_spec hw q (List.mem_of_getElem? hp)⟩

/-- Which slices may grow from here on: old ones, or nil ones. -/
inductive ASel where
  | old (j : Nat)
  | nil (k : Nat) (T : TypeId)

/-- Which data are known from here on: old ones; slices that grew; nil slices. -/
inductive RSel where
  | old (j : Nat)
  | froz (j : Nat)
  | nil (k : Nat)

def selAccs (S : St) : List ASel → Option (List Acc)
  | [] => some []
  | .old j :: r => match nth S.accs j, selAccs S r with
    | some a, some l => some (a :: l)
    | _, _ => none
  | .nil k T :: r => match selAccs S r with
    | some l => some (⟨.slice none 0 0, k, T, []⟩ :: l)
    | none => none

def selReps (S : St) : List RSel → Option (List (Value × D))
  | [] => some []
  | .old j :: r => match nth S.reps j, selReps S r with
    | some a, some l => some (a :: l)
    | _, _ => none
  | .froz j :: r => match nth S.accs j, selReps S r with
    | some a, some l => some ((a.v, .sl a.k a.ds) :: l)
    | _, _ => none
  | .nil k :: r => match selReps S r with
    | some l => some ((.slice none 0 0, .sl k []) :: l)
    | none => none

def oldsA : List ASel → List Nat
  | [] => []
  | .old j :: r => j :: oldsA r
  | .nil _ _ :: r => oldsA r
def frozR : List RSel → List Nat
  | [] => []
  | .froz j :: r => j :: frozR r
  | _ :: r => frozR r
def apartN (l : List Nat) : List Nat → Bool
  | [] => true
  | j :: r => !l.contains j && apartN l r

theorem selAccs_mem {S : St} : ∀ {ag : List ASel} {l : List Acc}, selAccs S ag = some l → ∀ a ∈ l, (∃ j ∈ oldsA ag, S.accs[j]? = some a) ∨ (∃ k T, a = ⟨.slice none 0 0, k, T, []⟩)
  | [], l, h, a, ha => by cases h; cases ha
  | .old j :: r, l, h, a, ha => by
    simp only [selAccs] at h
    split at h
    · rename_i x l' h1 h2
      cases h
      rcases List.mem_cons.1 ha with e | e
      · subst e; exact .inl ⟨j, by simp [oldsA], by rw [← nth_eq]; exact h1⟩
      · rcases selAccs_mem h2 a e with ⟨i, hi, hi'⟩ | h3
        · exact .inl ⟨i, by simp [oldsA, hi], hi'⟩
        · exact .inr h3
    · cases h
  | .nil k T :: r, l, h, a, ha => by
    simp only [selAccs] at h
    split at h
    · rename_i l' h2
      cases h
      rcases List.mem_cons.1 ha with e | e
      · exact .inr ⟨k, T, e⟩
      · rcases selAccs_mem h2 a e with ⟨i, hi, hi'⟩ | h3
        · exact .inl ⟨i, by simpa [oldsA] using hi, hi'⟩
        · exact .inr h3
    · cases h

theorem selReps_mem {S : St} : ∀ {rs : List RSel} {l : List (Value × D)}, selReps S rs = some l → ∀ p ∈ l, p ∈ S.reps ∨ (∃ j a, j ∈ frozR rs ∧ S.accs[j]? = some a ∧ p = (a.v, .sl a.k a.ds)) ∨ (∃ k, p = (.slice none 0 0, .sl k []))
  | [], l, h, a, ha => by cases h; cases ha
  | .old j :: r, l, h, a, ha => by
    simp only [selReps] at h
    split at h
    · rename_i x l' h1 h2
      cases h
      rcases List.mem_cons.1 ha with e | e
      · subst e; exact .inl (List.mem_of_getElem? (by rw [← nth_eq]; exact h1))
      · exact selReps_mem h2 a e
    · cases h
  | .froz j :: r, l, h, a, ha => by
    simp only [selReps] at h
    split at h
    · rename_i x l' h1 h2
      cases h
      rcases List.mem_cons.1 ha with e | e
      · exact .inr (.inl ⟨j, x, by simp [frozR], by rw [← nth_eq]; exact h1, e⟩)
      · rcases selReps_mem h2 a e with h3 | ⟨i, y, h4, h5⟩ | h3
        · exact .inl h3
        · exact .inr (.inl ⟨i, y, by simp [frozR, h4], h5⟩)
        · exact .inr (.inr h3)
    · cases h
  | .nil k :: r, l, h, a, ha => by
    simp only [selReps] at h
    split at h
    · rename_i l' h2
      cases h
      rcases List.mem_cons.1 ha with e | e
      · exact .inr (.inr ⟨k, e⟩)
      · exact selReps_mem h2 a e
    · cases h

theorem flatMap_apart {α : Type} {f : α → List Nat} : ∀ {l : List α}, (l.flatMap f).Nodup → ∀ {i j : Nat} {x y : α} {b : Nat}, l[i]? = some x → l[j]? = some y → i ≠ j → b ∈ f x → b ∈ f y → False
  | [], _, i, j, x, y, b, h, _, _, _, _ => by simp at h
  | a :: l, hn, i, j, x, y, b, hi, hj, hij, hx, hy => by
    rw [List.flatMap_cons, List.nodup_append] at hn
    cases i with
    | zero =>
      simp at hi; subst hi
      cases j with
      | zero => exact hij rfl
      | succ j => exact hn.2.2 b hx b (List.mem_flatMap.2 ⟨y, List.mem_of_getElem? (by simpa using hj), hy⟩) rfl
    | succ i =>
      cases j with
      | zero =>
        simp at hj; subst hj
        exact hn.2.2 b hy b (List.mem_flatMap.2 ⟨x, List.mem_of_getElem? (by simpa using hi), hx⟩) rfl
      | succ j => exact flatMap_apart hn.2.1 (by simpa using hi) (by simpa using hj) (by omega) hx hy

theorem selAccs_mem2 {S : St} (f : Acc → List Nat) (hf : ∀ k T, f ⟨.slice none 0 0, k, T, []⟩ = []) {ag : List ASel} {l : List Acc} (h : selAccs S ag = some l) : ∀ b, b ∈ l.flatMap f → b ∈ S.accs.flatMap f := by
  intro b hb
  obtain ⟨a, ha, hba⟩ := List.mem_flatMap.1 hb
  rcases selAccs_mem h a ha with ⟨j, _, hj⟩ | ⟨k, T, rfl⟩
  · exact List.mem_flatMap.2 ⟨a, List.mem_of_getElem? hj, hba⟩
  · rw [hf] at hba; cases hba

theorem selAccs_nodup {S : St} (f : Acc → List Nat) (hf : ∀ k T, f ⟨.slice none 0 0, k, T, []⟩ = []) (hn : (S.accs.flatMap f).Nodup) : ∀ {ag : List ASel} {l : List Acc}, selAccs S ag = some l → (oldsA ag).Nodup → (l.flatMap f).Nodup
  | [], l, h, _ => by cases h; simp
  | .old j :: r, l, h, hh => by
    simp only [selAccs] at h
    split at h
    · rename_i x l' h1 h2
      cases h
      simp only [oldsA] at hh
      obtain ⟨hj, hr⟩ := List.nodup_cons.1 hh
      have hx : S.accs[j]? = some x := by rw [← nth_eq]; exact h1
      rw [List.flatMap_cons, List.nodup_append]
      refine ⟨?_, selAccs_nodup f hf hn h2 hr, fun b hb b' hb' e => ?_⟩
      · have hm := List.mem_of_getElem? hx
        obtain ⟨s, t, hst⟩ := List.append_of_mem hm
        rw [hst, List.flatMap_append, List.flatMap_cons, List.nodup_append, List.nodup_append] at hn
        exact hn.2.1.1
      · subst e
        obtain ⟨a, ha, hba⟩ := List.mem_flatMap.1 hb'
        rcases selAccs_mem h2 a ha with ⟨i, hi, hia⟩ | ⟨k, T, rfl⟩
        · refine flatMap_apart hn hx hia ?_ hb hba
          rintro rfl
          exact hj hi
        · rw [hf] at hba; cases hba
    · cases h
  | .nil k T :: r, l, h, hh => by
    simp only [selAccs] at h
    split at h
    · rename_i l' h2
      cases h
      rw [List.flatMap_cons, hf, List.nil_append]
      exact selAccs_nodup f hf hn h2 hh
    · cases h

theorem apartN_spec {l : List Nat} : ∀ {r : List Nat}, apartN l r = true → ∀ j ∈ r, j ∉ l
  | [], _, j, hj => by cases hj
  | i :: r, h, j, hj => by
    simp only [apartN, Bool.and_eq_true, Bool.not_eq_true', List.contains_eq_mem, decide_eq_false_iff_not] at h
    rcases List.mem_cons.1 hj with e | e
    · subst e; exact h.1
    · exact apartN_spec h.2 j e

/-- A part of the state, by numbers; slices that grew may be data from here on; nil slices may grow, or are data. -/
theorem StLe.gen {S : St} (n : Nat) (ag : List ASel) (rs : List RSel) {own : List Blk} {accs : List Acc} {reps : List (Value × D)} (ho : S.own.take n = own) (ha : selAccs S ag = some accs) (hr : selReps S rs = some reps)
    (hn : Nat.ble n S.own.length = true) (hw : wfB n own = true) (hd : noDup (oldsA ag) = true) (hf : apartN (oldsA ag) (frozR rs) = true) : StLe S ⟨own, accs, reps⟩ := by
  subst ho
  have hn := Nat.le_of_ble_eq_true hn
  have hlen : (S.own.take n).length = n := by rw [List.length_take]; omega
  have hmemA : ∀ b, b ∈ accs.flatMap (fun a => accBlk a.v) → b ∈ S.accs.flatMap (fun a => accBlk a.v) := fun b hb => selAccs_mem2 (fun a => accBlk a.v) (fun _ _ => rfl) ha b hb
  refine ⟨by simp only [hlen]; exact hn, fun J ℓ w h => ?_⟩
  simp only [hlen]
  have hmem : ∀ b ∈ mutS (ℓ.take n) ⟨S.own.take n, accs, reps⟩, b ∈ mutS ℓ S := fun b hb => by
    simp only [mutS] at hb ⊢
    rcases List.mem_append.1 hb with h1 | h1
    · exact List.mem_append.2 (.inl ((mutL_take n).subset h1))
    · exact List.mem_append.2 (.inr (hmemA b h1))
  have hx : ∀ x, x < w.heap.size → Jx J (mutS ℓ S) x → Jx J (mutS (ℓ.take n) ⟨S.own.take n, accs, reps⟩) x ∧ w.heap[x]? = w.heap[x]? := fun x _ hj => ⟨⟨hj.1, fun hx => hj.2 (hmem x hx)⟩, rfl⟩
  obtain ⟨_, h2⟩ := StLe.part S n hn (wfB_spec hw) [] (List.nil_sublist _) [] (by simp)
  obtain ⟨hg, _⟩ := h2 J ℓ w h
  simp only [hlen] at hg
  have hnd := h.nodup
  simp only [mutS] at hnd
  rw [List.nodup_append] at hnd
  have hnodup : (mutS (ℓ.take n) ⟨S.own.take n, accs, reps⟩).Nodup := by
    simp only [mutS]
    rw [List.nodup_append]
    exact ⟨(mutL_take n).nodup hnd.1, selAccs_nodup (fun a => accBlk a.v) (fun _ _ => rfl) hnd.2.1 ha (noDup_spec hd), fun x hx y hy => hnd.2.2 x ((mutL_take n).subset hx) y (hmemA y hy)⟩
  refine ⟨⟨hg.len, hnodup, fun b hb => h.lt b (hmem b hb), fun b hb => h.memJ b (hmem b hb), hg.wf, ?_, ?_, ?_⟩, hmem⟩
  · intro i b k hi hk
    simp only at hk
    have hin : i < n := by
      rcases Nat.lt_or_ge i n with h1 | h1
      · exact h1
      · rw [List.getElem?_eq_none (by rw [hlen]; exact h1)] at hk; cases hk
    rw [List.getElem?_take, if_pos hin] at hi hk
    refine (h.own i b k hi hk).keep (wfB_spec hw k (List.mem_of_getElem? (by rw [List.getElem?_take, if_pos hin]; exact hk))) (fun j hj => ?_) (fun x hx' hj => (hx x hx' hj).1) (fun _ => rfl)
    simp [List.getD, hj]
  · intro a haa
    rcases selAccs_mem ha a haa with ⟨j, _, hj⟩ | ⟨k, T, rfl⟩
    · exact (h.accs a (List.mem_of_getElem? hj)).keep hx (fun _ _ _ => rfl)
    · exact .inl ⟨rfl, rfl⟩
  · intro p hp
    rcases selReps_mem hr p hp with h1 | ⟨j, a, hj, haj, rfl⟩ | ⟨k, rfl⟩
    · exact (h.reps p h1).map hx
    · have hok := h.accs a (List.mem_of_getElem? haj)
      simp only [Rep, RepC]
      rcases hok with ⟨hv, hd⟩ | ⟨b, cp, cc, hv, hgb, hcs, hl, hre⟩
      · rw [hv, hd]
        exact ⟨none, 0, rfl, ⟨Nat.le_refl _, Nat.zero_le _⟩, .inl rfl⟩
      · rw [hv]
        have hba : b ∈ accBlk a.v := by simp [hv, accBlk]
        have hbm : b ∈ S.accs.flatMap (fun a => accBlk a.v) := List.mem_flatMap.2 ⟨a, List.mem_of_getElem? haj, hba⟩
        refine ⟨_, cp, rfl, hl, .inr ⟨b, 0, cc, a.T, (0, 0), rfl, ⟨h.memJ b (by simp only [mutS]; exact List.mem_append.2 (.inr hbm)), fun hmm => ?_⟩, hgb, ?_⟩⟩
        · simp only [mutS] at hmm
          rcases List.mem_append.1 hmm with hm1 | hm1
          · exact hnd.2.2 b ((mutL_take n).subset hm1) b hbm rfl
          · obtain ⟨a', ha', hb'⟩ := List.mem_flatMap.1 hm1
            rcases selAccs_mem ha a' ha' with ⟨i, hi, hia⟩ | ⟨k, T, rfl⟩
            · refine flatMap_apart (f := fun (x : Acc) => accBlk x.v) hnd.2.1 hia haj ?_ hb' hba
              rintro rfl
              exact apartN_spec hf i hj hi
            · simp [accBlk] at hb'
        · simpa using RepE.map hx a.k _ _ hre
    · exact ⟨none, 0, rfl, ⟨Nat.zero_le _, Nat.zero_le _⟩, .inl rfl⟩

theorem AtRet.gen {m : Nat} {o : Out} {S : St} {R : Out → St → Prop} (S' : St) (h : StLe S S') (hm : Nat.ble m S'.own.length = true) (ho : o.wf S'.own.length = true) (hR : R o S') : AtRet m o S R :=
  ⟨⟨S', h, Nat.le_of_ble_eq_true hm, ho, hR⟩⟩

/-- The end of a pure function. -/
theorem AtRet.pureG {r : SV} {S : St} {R : SV → List (Value × D) → Prop} (rs : List RSel) (out : List (Value × D)) (hout : selReps S rs = some out) (hr : r.wf 0 = true) (h : R r out) : AtRet 0 (.ret r) S (fun o S' => ∃ r out, o = .ret r ∧ S' = ⟨[], [], out⟩ ∧ r.wf 0 = true ∧ R r out) :=
  ⟨⟨[], [], out⟩, StLe.gen 0 [] rs rfl rfl hout (by simp) rfl rfl (by simp only [oldsA]; induction (frozR rs) with | nil => rfl | cons a l ih => simpa [apartN] using ih), Nat.zero_le _, hr, r, out, rfl, rfl, hr, h⟩

/-- Less may be known ahead of a call. -/
theorem Meets.le {P : Program} {cl : Cal} {args : List SV} {S S' : St} {R : Out → St → Prop} (h : StLe S S') (hl : Nat.beq S'.own.length S.own.length = true) (k : Meets P cl args S' R) : Meets P cl args S R := by
  intro J ℓ w hG hJ
  have hl := Nat.eq_of_beq_eq_true hl
  obtain ⟨h1, h2⟩ := h.2 J ℓ w hG
  rw [hl, ← hG.len, List.take_length] at h1 h2
  obtain ⟨nx, e1, e2⟩ := k J ℓ w h1 hJ
  refine ⟨nx, e1, e2.mono ?_⟩
  rintro e w' ⟨ℓ', o, S'', a1, a2, a3, a4, a5, a6, a7⟩
  exact ⟨ℓ', o, S'', a1, a2, a3, a4.mono (fun x hx _ => h2 x hx), a5, fun b hb => (a6 b hb).imp (h2 b) id, a7⟩

theorem AtSem.le {P : Program} {m : List Base → Sem Value} {S S' : St} {K : SV → St → Prop} (h : StLe S S') (hl : Nat.beq S'.own.length S.own.length = true) (k : AtSem P m S' K) : AtSem P m S K := by
  constructor
  intro J ℓ w hG hJ
  have hl := Nat.eq_of_beq_eq_true hl
  obtain ⟨h1, h2⟩ := h.2 J ℓ w hG
  rw [hl, ← hG.len, List.take_length] at h1 h2
  obtain ⟨r, ℓ', S'', w', a1, a2, a3, a4, a5, a6, a7⟩ := k.sem J ℓ w h1 hJ
  exact ⟨r, ℓ', S'', w', a1, a2, a3, a4.mono (fun x hx _ => h2 x hx), a5, fun b hb => (a6 b hb).imp (h2 b) id, a7⟩

/-- append(s, x...) of a slice that may grow; what it reads as then. -/
theorem at_appendG {P : Program} {tt : Tab} (hT : TTOK P tt) {t e ty : TypeId} {k : Nat} {x y : SV} {S : St} {K : SV → St → Prop} {v : Value} {a : Option Addr} {m c : Nat} {ds es ds' : List D} (bytes j i : Nat) (ht : tt t = some (.slice e k)) (hel : elemB P e k bytes = true)
    (hx : x = .v v) (hacc : nth S.accs j = some ⟨v, k, e, ds⟩) (hy : y = .v (.slice a m c)) (hr : nth S.reps i = some (.slice a m c, .sl k es)) (hds : ds' = ds ++ es) (hc : decide (ds'.length ≤ 1000000) = true) (hb : Nat.ble bytes 100000 = true)
    (h : ∀ a' c', forceL (setNth S.accs j ⟨.slice a' ds'.length c', k, e, ds'⟩) (fun accs => K (.v (.slice a' ds'.length c')) ⟨S.own, accs, S.reps⟩)) : AtSem P (fun ℓ => Builtin.append_ #[t, t] ty (SV.denL ℓ [x, y]).toArray) S K := by
  subst hds
  have hc := of_decide_eq_true hc
  have hb := Nat.le_of_ble_eq_true hb
  simp only [List.length_append] at h hc
  have : (ds.length + es.length) * bytes ≤ 1000000 * 100000 := Nat.mul_le_mul hc hb
  exact at_append hT bytes j i ht hel hx hacc hy hr (by omega) (by omega) h

theorem map_get {α : Type} (f : α → D) {l : List α} {i : Nat} {x : α} (h : l[i]? = some x) : (l.map f)[i]? = some (f x) := by simp [h]

/-- f yields r, given fuel enough. -/
def Ev {α : Type} (f : Nat → Option α) (r : α) : Prop := ∃ N, ∀ n, N ≤ n → f n = some r

theorem Ev.pure {α : Type} (r : α) : Ev (fun _ => some r) r := ⟨0, fun _ _ => rfl⟩
theorem Ev.const {α : Type} {f : Nat → Option α} {r : α} (h : ∀ n, f n = some r) : Ev f r := ⟨0, fun n _ => h n⟩
theorem Ev.succ {α : Type} {f g : Nat → Option α} {r : α} (hf : ∀ n, f (n + 1) = g n) (h : Ev g r) : Ev f r := by
  obtain ⟨N, h⟩ := h
  refine ⟨N + 1, fun n hn => ?_⟩
  obtain ⟨m, rfl⟩ : ∃ m, n = m + 1 := ⟨n - 1, by omega⟩
  rw [hf]; exact h m (by omega)
theorem Ev.bind {α β : Type} {f : Nat → Option α} {g : Nat → α → Option β} {x : α} {r : β} (h : Ev f x) (k : Ev (fun n => g n x) r) : Ev (fun n => (f n).bind (g n)) r := by
  obtain ⟨N, h⟩ := h
  obtain ⟨M, k⟩ := k
  refine ⟨max N M, fun n hn => ?_⟩
  show (f n).bind (g n) = some r
  rw [h n (by omega)]
  exact k n (by omega)
theorem Ev.t {α : Type} {b : Bool} {f g : Nat → Option α} {r : α} (hb : b = true) (h : Ev f r) : Ev (fun n => cond b (f n) (g n)) r := by subst hb; exact h
theorem Ev.f {α : Type} {b : Bool} {f g : Nat → Option α} {r : α} (hb : b = false) (h : Ev g r) : Ev (fun n => cond b (f n) (g n)) r := by subst hb; exact h
theorem Ev.eq {α : Type} {f : Nat → Option α} {r r' : α} (h : Ev f r) (e : r = r') : Ev f r' := e ▸ h
theorem Ev.ite {α : Type} {b : Bool} {f g : Nat → Option α} {r : α} (h : b = true → Ev f r) (k : b = false → Ev g r) : Ev (fun n => cond b (f n) (g n)) r := by
  cases b with
  | true => exact h rfl
  | false => exact k rfl

theorem no_some {α : Type} {r : α} {A : Prop} (h : (none : Option α) = some r) : A := by cases h
theorem nth_mem {α : Type} {l : List α} {j : Nat} {x : α} (h : nth l j = some x) : x ∈ l := List.mem_of_getElem? (by rw [← nth_eq]; exact h)
theorem OwnKeptBut.append {W : List Nat} {S : St} {l : List Blk} {accs : List Acc} {reps : List (Value × D)} : OwnKeptBut W S ⟨S.own ++ l, accs, reps⟩ := (OwnKept.append S l accs reps).but W

/-- A slice literal; what it reads as. -/
theorem at_buildG {P : Program} {tt : Tab} (hT : TTOK P tt) {t e : TypeId} {k n : Nat} {l : List (Nat × SV)} {S : St} {K : SV → St → Prop} (bytes : Nat) (ds : List D) {ds' : List D} (ht : tt t = some (.slice e k)) (hel : elemB P e k bytes = true) (hl : partsOK S.reps k 0 l ds) (hn : ds'.length = n) (hds : ds' = ds) (hlim : n * k ≤ 16777216) (hpos : n ≤ 16777216)
    (h : ∀ a, addReps S [(.slice a ds'.length n, .sl k ds')] (fun S' => K (.v (.slice a ds'.length n)) S')) : AtSem P (fun ℓ => Instr.buildSlice t n (denParts ℓ l).toArray) S K := by
  subst hds
  rw [hn] at h
  exact at_build hT bytes _ ht hel hl hn hlim hpos h

/-- x[lo:hi]; what it reads as. -/
theorem at_sliceG {P : Program} {tt : Tab} (hT : TTOK P tt) {t e : TypeId} {k : Nat} {x : SV} {sl sh : Option SV} {S : St} {K : SV → St → Prop} {a : Option Addr} {n c : Nat} {ds ds' : List D} (j : Nat) (lo hi : Int) (hx : x = .v (.slice a n c)) (ht : tt t = some (.slice e k))
    (hr : nth S.reps j = some (.slice a n c, .sl k ds)) (hlo : (∃ q, sl = some (.v (.int q lo))) ∨ (sl = none ∧ lo = 0)) (hhi : (∃ q, sh = some (.v (.int q hi))) ∨ (sh = none ∧ hi = n)) (h0 : decide (0 ≤ lo ∧ lo ≤ hi ∧ hi ≤ n) = true) (hds : ds' = (ds.take hi.toNat).drop lo.toNat)
    (h : ∀ a' c', addReps S [(.slice a' ds'.length c', .sl k ds')] (fun S' => K (.v (.slice a' ds'.length c')) S')) : AtPure P (fun ℓ => Instr.sliceAt t (x.den ℓ) (denO ℓ sl) (denO ℓ sh) (denO ℓ none)) S K := by
  obtain ⟨h1, h2, h3⟩ := of_decide_eq_true h0
  have hb1 : bnd 0 lo.toNat sl := by
    rcases hlo with ⟨q, rfl⟩ | ⟨rfl, rfl⟩
    · simp only [bnd]; omega
    · rfl
  have hb2 : bnd n hi.toNat sh := by
    rcases hhi with ⟨q, rfl⟩ | ⟨rfl, rfl⟩
    · simp only [bnd]; omega
    · simp only [bnd]; omega
  constructor
  intro J ℓ w hG hJ
  have hrep := hG.reps _ (List.mem_of_getElem? (by rw [← nth_eq]; exact hr))
  simp only [Rep, RepC] at hrep
  obtain ⟨a', cap, heq, hle, _⟩ := hrep
  simp only [List.cons.injEq, Value.slice.injEq, and_true] at heq
  obtain ⟨_, hn, _⟩ := heq
  have hl : ds'.length = hi.toNat - lo.toNat := by subst hds; simp; omega
  refine (at_slice hT j lo.toNat hi.toNat hx ht hr hb1 hb2 (by omega) (by omega) ?_).sem J ℓ w hG hJ
  intro a' c' _
  have := h a' c'
  rw [hl, hds] at this
  exact this

theorem sl_l {α : Type} (f : α → D) (l : List α) (lo : Int) : (l.drop lo.toNat).map f = ((l.map f).take (((l.map f).length : Nat) : Int).toNat).drop lo.toNat := by
  rw [Int.toNat_natCast, List.take_length, List.map_drop]
theorem sl_h {α : Type} (f : α → D) (l : List α) (hi : Int) : (l.take hi.toNat).map f = ((l.map f).take hi.toNat).drop (0 : Int).toNat := by simp [List.map_take]
/-- A slice literal that may grow. -/
theorem at_buildAcc {P : Program} {tt : Tab} (hT : TTOK P tt) {t e : TypeId} {k n : Nat} {l : List (Nat × SV)} {S : St} {K : SV → St → Prop} (bytes : Nat) (ds : List D) {ds' : List D} (ht : tt t = some (.slice e k)) (hel : elemB P e k bytes = true) (hl : partsOK S.reps k 0 l ds) (hn : ds'.length = n) (hds : ds' = ds) (hlim : n * k ≤ 16777216) (hpos : n ≤ 16777216)
    (h : ∀ a, forceL (⟨.slice a ds'.length n, k, e, ds'⟩ :: S.accs) (fun accs => K (.v (.slice a ds'.length n)) ⟨S.own, accs, S.reps⟩)) : AtSem P (fun ℓ => Instr.buildSlice t n (denParts ℓ l).toArray) S K := by
  subst hds
  simp only [forceL_eq] at h
  rw [hn] at h
  constructor
  intro J ℓ w hG hJ
  obtain ⟨flat, hfl, hrun, hrep⟩ := run_build hT ht hel (ℓ := ℓ) hl hn hlim w
  have hold : ∀ x, x < w.heap.size → (w.alloc (.cells flat.toArray e (0, 0))).heap[x]? = w.heap[x]? := fun x hx => by
    show (w.heap.push _)[x]? = _
    rw [Array.getElem?_push, if_neg (by omega)]
  have hG1 : Good J ℓ ⟨S.own, ⟨.slice none 0 0, k, e, []⟩ :: S.accs, S.reps⟩ w := Good.nilAcc k e hG
  have hm1 : mutS ℓ ⟨S.own, ⟨.slice none 0 0, k, e, []⟩ :: S.accs, S.reps⟩ = mutS ℓ S := by simp [mutS, accBlk]
  have hsz : w.heap.size ≤ (w.alloc (.cells flat.toArray e (0, 0))).heap.size := by simp
  obtain ⟨hG2, hf⟩ := hG1.regrow hJ (j := 0) (a := ⟨.slice none 0 0, k, e, []⟩) (a' := ⟨.slice (some ⟨w.heap.size, 0, none⟩) n n, k, e, ds'⟩) rfl hsz (fun b hb _ => hold b hb) (by simp [accBlk]) (by
    intro b hb
    simp only [accBlk, List.mem_singleton] at hb
    subst hb
    exact ⟨.inr (Nat.le_refl _), by simp⟩) (fun J' hj => by
    refine .inr ⟨w.heap.size, n, flat.toArray, ?_, World.alloc_heap_new w _, ?_, ?_, ?_⟩
    · simp only; rw [hn]
    · simpa using hfl
    · simp only; rw [hn]; exact ⟨Nat.le_refl _, by omega⟩
    · simp only
      refine hrep (J := J') fun p hp => ?_
      have := hG1.reps p hp
      exact this.map hj)
  refine ⟨.v (.slice (some ⟨w.heap.size, 0, none⟩) n n), ℓ, _, _, hrun, rfl, List.prefix_refl _, ⟨rfl, rfl, hsz, fun b hb _ => hold b hb⟩, hG2, fun b hb => ?_, h _⟩
  rcases hf b hb with h1 | h1
  · rw [hm1] at h1; exact .inl h1
  · exact .inr h1

theorem wfB_of {n : Nat} : ∀ {l : List Blk}, (∀ k ∈ l, k.wf n = true) → wfB n l = true
  | [], _ => rfl
  | k :: r, h => by
    simp only [wfB]
    rw [h k (List.mem_cons_self ..)]
    exact wfB_of (fun q hq => h q (List.mem_cons_of_mem _ hq))

/-- Own blocks picked by their numbers, numbered anew. -/
theorem Good.pick {J : Nat → Prop} {ℓ : List Base} {o own : List Blk} {accs : List Acc} {rs : List (Value × D)} {w : World} (hG : Good J ℓ ⟨o, accs, rs⟩ w) (ix : List Nat) (hn : noDup ix = true) (hown : pickR o ix = some (own.map (Blk.ren (rixD ix)))) (hw : wfB ix.length own = true) :
    Good J (ix.map (fun i => ℓ.getD i default)) ⟨own, accs, rs⟩ w ∧ ∀ b ∈ mutS (ix.map (fun i => ℓ.getD i default)) ⟨own, accs, rs⟩, b ∈ mutS ℓ ⟨o, accs, rs⟩ := by
  have hn := noDup_spec hn
  obtain ⟨hlen0, hget⟩ := pickR_get hown
  have hlen : own.length = ix.length := by simpa using hlen0.symm
  have hown' : ∀ (p : Nat) (k : Blk), own[p]? = some k → ∃ i, ix[p]? = some i ∧ o[i]? = some (k.ren (rixD ix)) ∧ k.wf ix.length = true := by
    intro p k hp
    obtain ⟨i, h3, h4⟩ := hget p (k.ren (rixD ix)) (by rw [List.getElem?_map, hp]; rfl)
    exact ⟨i, h3, h4, wfB_spec hw k (List.mem_of_getElem? hp)⟩
  let ℓs : List Base := ix.map (fun i => ℓ.getD i default)
  have hixlt : ∀ (p i : Nat), ix[p]? = some i → i < o.length := by
    intro p i hp
    have hp' : p < own.length := by rw [hlen]; exact (List.getElem?_eq_some_iff.1 hp).1
    obtain ⟨i', h1, h2, _⟩ := hown' p own[p] (List.getElem?_eq_getElem hp')
    rw [hp] at h1
    cases h1
    exact (List.getElem?_eq_some_iff.1 h2).1
  have hr : ∀ i, i < ix.length → ℓ.getD (rixD ix i) default = ℓs.getD i default := by
    intro i hi
    simp [ℓs, rixD, List.getD, List.getElem?_map, List.getElem?_eq_getElem hi]
  have hℓs : ∀ (p : Nat) (b : Base), ℓs[p]? = some b → ∃ i, ix[p]? = some i ∧ ℓ[i]? = some b := by
    intro p b hp
    simp only [ℓs, List.getElem?_map, Option.map_eq_some_iff] at hp
    obtain ⟨i, hi, rfl⟩ := hp
    have hlt : i < ℓ.length := by rw [hG.len]; exact hixlt p i hi
    exact ⟨i, hi, by simp [List.getD, List.getElem?_eq_getElem hlt]⟩
  have hmem : ∀ b, b ∈ mutL ℓs own → b ∈ mutL ℓ o := by
    intro b hb
    obtain ⟨p, b', q, h1, h2, h3, h4⟩ := mem_mutL.1 hb
    obtain ⟨i, h5, h6⟩ := hℓs p b' h1
    obtain ⟨i', h7, h8, _⟩ := hown' p q h2
    rw [h5] at h7
    cases h7
    exact mem_mutL.2 ⟨i, b', _, h6, h8, by rw [Blk.ren_mut]; exact h3, h4⟩
  have hnS := hG.nodup
  simp only [mutS] at hnS
  rw [List.nodup_append] at hnS
  obtain ⟨hnA, hnC, hAC⟩ := hnS
  have hnd : (mutL ℓs own).Nodup := by
    refine mutL_nodup ?_
    intro p q b b' k1 k2 h1 h2 h3 h4 h5 h6 h7
    obtain ⟨i, e1, e2⟩ := hℓs p b h1
    obtain ⟨j, e3, e4⟩ := hℓs q b' h4
    obtain ⟨i', e5, e6, _⟩ := hown' p k1 h2
    obtain ⟨j', e7, e8, _⟩ := hown' q k2 h5
    rw [e1] at e5; cases e5
    rw [e3] at e7; cases e7
    have := mutL_uniq hnA i j b b' _ _ e2 e6 (by rw [Blk.ren_mut]; exact h3) e4 e8 (by rw [Blk.ren_mut]; exact h6) h7
    subst this
    have hp1 := (List.getElem?_eq_some_iff.1 e1)
    have hq1 := (List.getElem?_eq_some_iff.1 e3)
    exact (List.getElem_inj hn).1 (hp1.2.trans hq1.2.symm)
  have hmemS : ∀ b, b ∈ mutS ℓs ⟨own, accs, rs⟩ → b ∈ mutS ℓ ⟨o, accs, rs⟩ := fun b hb => by
    simp only [mutS] at hb ⊢
    rcases List.mem_append.1 hb with h1 | h1
    · exact List.mem_append.2 (.inl (hmem b h1))
    · exact List.mem_append.2 (.inr h1)
  have hJin : ∀ b, Jx J (mutS ℓ ⟨o, accs, rs⟩) b → Jx J (mutS ℓs ⟨own, accs, rs⟩) b := fun b ⟨h1, h2⟩ => ⟨h1, fun hb => h2 (hmemS b hb)⟩
  refine ⟨⟨by simp [hlen], ?_, fun b hb => hG.lt b (hmemS b hb), fun b hb => hG.memJ b (hmemS b hb), ?_, ?_, ?_, ?_⟩, hmemS⟩
  · simp only [mutS]
    rw [List.nodup_append]
    exact ⟨hnd, hnC, fun x hx y hy e => hAC x (hmem x hx) y hy e⟩
  · intro q hq
    obtain ⟨p, hp⟩ := List.getElem?_of_mem hq
    simp only [hlen]
    exact (hown' p q hp).choose_spec.2.2
  · intro p b q hb hq
    obtain ⟨i, e1, e2⟩ := hℓs p b hb
    obtain ⟨i', e3, e4, e5⟩ := hown' p q hq
    rw [e1] at e3; cases e3
    exact (hG.own i b _ e2 e4).unren hr e5 hJin
  · intro ac hac
    exact (hG.accs ac hac).keep (fun x _ hj => ⟨hJin x hj, rfl⟩) (fun _ _ _ => rfl)
  · intro p hp
    exact (hG.reps p hp).map (fun b _ hb => ⟨hJin b hb, rfl⟩)

/-- A part of the state, by numbers, the own blocks numbered anew. -/
theorem StLeR.gen {S : St} (ix : List Nat) (ag : List ASel) (rs : List RSel) {own : List Blk} {accs : List Acc} {reps : List (Value × D)} (hown : pickR S.own ix = some (own.map (Blk.ren (rixD ix)))) (ha : selAccs S ag = some accs) (hr : selReps S rs = some reps)
    (hn : noDup ix = true) (hw : wfB ix.length own = true) (hd : noDup (oldsA ag) = true) (hf : apartN (oldsA ag) (frozR rs) = true) : StLeR ix S ⟨own, accs, reps⟩ := by
  refine ⟨by have := (pickR_get hown).1; simpa using this, fun J ℓ w hG => ?_⟩
  have h1 : StLe S ⟨S.own, accs, reps⟩ := by
    refine ⟨Nat.le_refl _, fun J ℓ w hG => ?_⟩
    have hwS : wfB S.own.length S.own = true := wfB_of hG.wf
    have h2 := StLe.gen (S := S) S.own.length ag rs (List.take_length) ha hr (Nat.ble_self_eq_true _) hwS hd hf
    exact h2.2 J ℓ w hG
  obtain ⟨hg, hm⟩ := h1.2 J ℓ w hG
  simp only [← hG.len, List.take_length] at hg hm
  obtain ⟨hg2, hm2⟩ := hg.pick ix hn hown hw
  exact ⟨hg2, fun b hb => hm b (hm2 b hb)⟩

def splitR {α : Type} : List α → Nat → List Nat → List α × List α
  | [], _, _ => ([], [])
  | a :: l, _, [] => ([], a :: l)
  | a :: l, k, j :: js => match Nat.beq j k with
    | true => (a :: (splitR l (k + 1) js).1, (splitR l (k + 1) js).2)
    | false => ((splitR l (k + 1) (j :: js)).1, a :: (splitR l (k + 1) (j :: js)).2)

theorem splitR_perm {α : Type} : ∀ (l : List α) (k : Nat) (js : List Nat), l.Perm ((splitR l k js).1 ++ (splitR l k js).2)
  | [], _, _ => .refl _
  | a :: l, _, [] => .refl _
  | a :: l, k, j :: js => by
    simp only [splitR]
    split
    · exact (splitR_perm l (k + 1) js).cons a
    · exact ((splitR_perm l (k + 1) (j :: js)).cons a).trans List.perm_middle.symm

/-- At a call that is handed own blocks and slices that may grow, by their numbers. -/
theorem Meets.frameRA {P : Program} {cl : Cal} {args : List SV} {own : List Blk} {accs rest : List Acc} {rs : List (Value × D)} {R : Out → St → Prop} {S : St} {K : Out → St → Prop} {cl' : Cal} {args' : List SV} (h : Meets P cl args ⟨own, accs, rs⟩ R) (ix ax js : List Nat)
    (hac : splitR S.accs 0 ax = (accs, rest)) (hcl' : cl' = cl.ren (rix ix)) (hargs' : args' = SV.renL (rix ix) args)
    (hn : noDup ix = true) (hown : pickR S.own ix = some (own.map (Blk.ren (rix ix)))) (hw : wfB ix.length own = true)
    (hrs : pickR S.reps js = some rs) (hargs : SV.wfL ix.length args = true) (hcl : cl.wf ix.length = true)
    (k : ∀ o s', R o s' → s'.own.map Blk.mut = own.map Blk.mut ∧ ∃ ks, s'.own.map (Blk.ren (rix ix)) = ks ∧ forceL (setAll S.own ix ks) (fun own => forceL (s'.accs ++ rest) (fun accs => forceL (S.reps ++ s'.reps) (fun reps => K (o.ren (rix ix)) ⟨own, accs, reps⟩)))) : Meets P cl' args' S K := by
  simp only [forceL_eq] at k
  obtain ⟨h1, h2⟩ := pickR_get hown
  have hlen : own.length = ix.length := by simpa using h1.symm
  have hown' : ∀ (p : Nat) (k : Blk), own[p]? = some k → ∃ i, ix[p]? = some i ∧ S.own[i]? = some (k.ren (rix ix)) ∧ k.wf ix.length = true := by
    intro p q hp
    obtain ⟨i, h3, h4⟩ := h2 p (q.ren (rix ix)) (by rw [List.getElem?_map, hp]; rfl)
    exact ⟨i, h3, h4, wfB_spec hw q (List.mem_of_getElem? hp)⟩
  have hc := rixN_low ix S.own.length
  have hperm : S.accs.Perm (accs ++ rest) := by
    have := splitR_perm S.accs 0 ax
    rw [hac] at this
    exact this
  refine Meets.frameG (rest := rest) h ix ?_ ?_ hperm (noDup_spec hn) hlen ?_ (pickR_mem hrs) hargs hcl ?_
  · rw [hcl']
    cases cl with
    | val F => simp only [Cal.ren]; rw [SV.ren_congr hc F hcl]
    | meth x name => simp only [Cal.ren]; rw [SV.ren_congr hc x hcl]
  · rw [hargs', SV.renL_congr hc args hargs]
  · intro p q hp
    obtain ⟨i, h1, h2, h3⟩ := hown' p q hp
    exact ⟨i, h1, by rw [← Blk.ren_congr hc h3]; exact h2, h3⟩
  · intro o s' hR hwo hws
    obtain ⟨hmut, ks, hks, hK⟩ := k o s' hR
    have hsl : s'.own.length = ix.length := by have := congrArg List.length hmut; simpa [hlen] using this
    refine ⟨s'.own, [], by simp, hmut, ?_⟩
    have e1 : s'.own.map (Blk.ren (rixN ix S.own.length)) = ks := by
      rw [← hks]
      refine List.map_congr_left (fun q hq => ?_)
      exact (Blk.ren_congr hc (by rw [← hsl]; exact hws q hq)).symm
    have e2 : o.ren (rixN ix S.own.length) = o.ren (rix ix) := by
      cases o with
      | ret x => simp only [Out.ren]; rw [SV.ren_congr hc x (by rw [← hsl]; exact hwo)]
      | pan x => simp only [Out.ren]; rw [SV.ren_congr hc x (by rw [← hsl]; exact hwo)]
    rw [e1, e2]
    simpa using hK

/-- The value of a datum of one cell. -/
def D.one : D → Option Value
  | .int k n => some (.int k n)
  | .bool b => some (.bool b)
  | .str s => some (.string s)
  | _ => none

theorem repC_one {J : Nat → Prop} {w : World} {d : D} {u : Value} (h : D.one d = some u) (cs : List Value) : RepC J w d cs ↔ cs = [u] := by
  cases d <;> simp only [D.one, Option.some.injEq, reduceCtorEq] at h <;> subst h <;> simp only [RepC]
theorem one_cell {d : D} {u : Value} (h : D.one d = some u) : u.oneCell' = true ∧ u.cells = #[u] := by
  cases d <;> simp only [D.one, Option.some.injEq, reduceCtorEq] at h <;> subst h <;> exact ⟨rfl, rfl⟩

theorem RepE.setOne {J : Nat → Prop} {w : World} {d0 : D} {u : Value} (hu : D.one d0 = some u) : ∀ {ds : List D} {cs : List Value} {i : Nat}, RepE J w 1 ds cs → i < ds.length → RepE J w 1 (ds.set i d0) (cs.set i u)
  | d :: ds, cs, 0, h, _ => by
    simp only [RepE] at h
    obtain ⟨c, cs, rfl⟩ : ∃ c r, cs = c :: r := by cases cs with | nil => simp at h | cons c r => exact ⟨c, r, rfl⟩
    simp only [List.set_cons_zero, RepE, List.length_cons, List.take_succ_cons, List.take_zero, List.drop_succ_cons, List.drop_zero] at h ⊢
    exact ⟨by omega, (repC_one hu _).2 rfl, h.2.2⟩
  | d :: ds, cs, i + 1, h, hlt => by
    simp only [RepE] at h
    obtain ⟨c, cs, rfl⟩ : ∃ c r, cs = c :: r := by cases cs with | nil => simp at h | cons c r => exact ⟨c, r, rfl⟩
    simp only [List.set_cons_succ, RepE, List.length_cons, List.take_succ_cons, List.take_zero, List.drop_succ_cons, List.drop_zero, List.length_set] at h ⊢
    exact ⟨h.1, h.2.1, RepE.setOne hu h.2.2 (by simpa using hlt)⟩

/-- The place of an element, of one cell, of a slice that may grow. -/
theorem at_index_accG {P : Program} {tt : Tab} (hT : TTOK P tt) {t e e' : TypeId} {x ix : SV} {S : St} {K : SV → St → Prop} {a : Option Addr} {n c : Nat} {i : Int} {kk : IntKind} {ds : List D} (j : Nat) (hx : x = .v (.slice a n c)) (hi : ix = .v (.int kk i)) (ht : tt t = some (.slice e 1))
    (hacc : nth S.accs j = some ⟨.slice a n c, 1, e', ds⟩) (h0 : decide (0 ≤ i ∧ i.toNat < ds.length) = true) (h : ∀ b, a = some ⟨b, 0, none⟩ → K (.v (.pointer (some ⟨b, i.toNat, none⟩))) S) : AtPure P (fun ℓ => Instr.indexAt t (x.den ℓ) (ix.den ℓ)) S K := by
  obtain ⟨h0, hlt⟩ := of_decide_eq_true h0
  constructor
  intro J ℓ w hG hJ
  have ha : S.accs[j]? = some ⟨.slice a n c, 1, e', ds⟩ := by rw [← nth_eq]; exact hacc
  rcases hG.accs _ (List.mem_of_getElem? ha) with ⟨_, hd⟩ | ⟨b, cap, cc, hv, _, _, _, _⟩
  · simp only at hd; subst hd; simp at hlt
  simp only [Value.slice.injEq] at hv
  obtain ⟨rfl, rfl, rfl⟩ := hv
  have := h b rfl
  rw [← Nat.mul_one i.toNat] at this
  exact (at_index_acc hT hx hi ht h0 (by omega) this).sem J ℓ w hG hJ

theorem tt_cell {P : Program} {tt : Tab} (hT : TTOK P tt) {t : TypeId} (ht : (∃ z, tt t = some (.cell z)) ∨ tt t = some .str) : (∀ w, (isAgg t).run P w = .ok false w) ∧ ∀ w, (sizeOf t).run P w = .ok 1 w := by
  rcases ht with ⟨z, h⟩ | h
  · have := hT t _ h; exact ⟨this.agg, this.size⟩
  · have := (hT t _ h).1; exact ⟨this.agg, this.size⟩

/-- An element of a slice that may grow. -/
theorem at_load_accG {P : Program} {tt : Tab} (hT : TTOK P tt) {t e : TypeId} {x : SV} {S : St} {K : SV → St → Prop} {b n c i : Nat} {d : D} {u : Value} {ds : List D} (j : Nat) (hacc : nth S.accs j = some ⟨.slice (some ⟨b, 0, none⟩) n c, 1, e, ds⟩) (hd : ds[i]? = some d) (hu : D.one d = some u)
    (ht : (∃ z, tt t = some (.cell z)) ∨ tt t = some .str) (hx : x = .v (.pointer (some ⟨b, i, none⟩))) (h : K (.v u) S) : AtSem P (fun ℓ => Instr.loadAt t (x.den ℓ)) S K := by
  subst hx
  constructor
  intro J ℓ w hG hJ
  have ha : S.accs[j]? = some ⟨.slice (some ⟨b, 0, none⟩) n c, 1, e, ds⟩ := by rw [← nth_eq]; exact hacc
  rcases hG.accs _ (List.mem_of_getElem? ha) with ⟨hv, _⟩ | ⟨b', cap, cc, hv, hb, _, _, hre⟩
  · cases hv
  simp only [Value.slice.injEq, Option.some.injEq, Addr.mk.injEq, and_true] at hv
  obtain ⟨⟨rfl, _⟩, _, _⟩ := hv
  obtain ⟨hl, hc⟩ := hre.get hd
  rw [repC_one hu] at hc
  simp only [Nat.mul_one] at hc hl
  have hget : cc.toList[i]? = some u := by
    have := congrArg (fun l => l[0]?) hc
    simpa [List.getElem?_take] using this
  have hcell : w.cell? ⟨b, i, none⟩ = some u := by
    simp only [World.cell?, hb]
    simpa using hget
  refine ⟨_, ℓ, S, w, ?_, rfl, List.prefix_refl _, Ext.refl _ _, hG, fun _ hb => .inl hb, h⟩
  simp only [SV.den, Instr.loadAt, Instr.sureAddr, pure_bind, loadVar, Sem.run_bind, (tt_cell hT ht).1, Result.andThen_ok, Bool.false_eq_true, if_false, run_load, hcell]

/-- An element of a slice that may grow is written. -/
theorem at_store_accG {P : Program} {tt : Tab} (hT : TTOK P tt) {t e : TypeId} {x s : SV} {S : St} {K : SV → St → Prop} {b n c i : Nat} {d : D} {u : Value} {ds ds' : List D} (j : Nat) (hacc : nth S.accs j = some ⟨.slice (some ⟨b, 0, none⟩) n c, 1, e, ds⟩) (hi : i < ds.length) (hu : D.one d = some u)
    (ht : (∃ z, tt t = some (.cell z)) ∨ tt t = some .str) (hx : x = .v (.pointer (some ⟨b, i, none⟩))) (hs : s = .v u) (hds : ds' = ds.set i d) (h : forceL (setNth S.accs j ⟨.slice (some ⟨b, 0, none⟩) n c, 1, e, ds'⟩) (fun accs => K undefS ⟨S.own, accs, S.reps⟩)) :
    AtSem P (fun ℓ => do Instr.storeAt t (x.den ℓ) (s.den ℓ); pure undef) S K := by
  subst hx hs hds
  rw [forceL_eq] at h
  obtain ⟨hu1, hu2⟩ := one_cell hu
  constructor
  intro J ℓ w hG hJ
  have ha : S.accs[j]? = some ⟨.slice (some ⟨b, 0, none⟩) n c, 1, e, ds⟩ := by rw [← nth_eq]; exact hacc
  rcases hG.accs _ (List.mem_of_getElem? ha) with ⟨hv, _⟩ | ⟨b', cap, cc, hv, hb, hcs, hle, hre⟩
  · cases hv
  simp only [Value.slice.injEq, Option.some.injEq, Addr.mk.injEq, and_true] at hv
  obtain ⟨⟨rfl, _⟩, rfl, rfl⟩ := hv
  simp only at hb hcs hle hre
  have hsz := (tt_cell hT ht).2 w
  have hicc : i < cc.size := by omega
  have hst := run_storeCells_at P b i e [u] 0 cc w hb (by simp; omega) (by simp [hu1])
  have hset : (cc.toList.take i ++ [u] ++ cc.toList.drop (i + 1)) = cc.toList.set i u := by
    rw [List.set_eq_take_append_cons_drop, if_pos (by simpa using hicc)]
    simp
  simp only [Nat.add_zero, List.length_cons, List.length_nil, Nat.zero_add, hset] at hst
  have hrow := setRow_heap w b cc (cc.toList.set i u).toArray e (0, 0) hb
  have hgood := hG.regrow (j := j) (a' := ⟨.slice (some ⟨b, 0, none⟩) ds.length c, 1, e, ds.set i d⟩) (w' := w.setRow b (cc.toList.set i u).toArray) hJ ha (by simp [World.setRow])
    (fun x hx hm => setRow_other w b x _ (fun e => hm (by simp [accBlk, e]))) (by simp [accBlk]) (fun x hx => ?_) (fun J' hj => ?_)
  · refine ⟨undefS, ℓ, _, w.setRow b (cc.toList.set i u).toArray, ?_, rfl, List.prefix_refl _, ⟨rfl, rfl, by simp [World.setRow], fun x hx hm => setRow_other w b x _ (fun e => hm ?_)⟩, hgood.1, hgood.2, h⟩
    · have hce : u.cells.size = 1 := by rw [hu2]; rfl
      have hcl : u.cells.toList = [u] := by rw [hu2]
      simp only [SV.den, Instr.storeAt, Instr.sureAddr, pure_bind, storeVar, Sem.run_bind, hsz, Result.andThen_ok, hce, ne_eq, not_true_eq_false, if_false, hcl, hst, Sem.run_pure, undefS, SV.denL, undef]
    · simp only [mutS]
      exact List.mem_append.2 (.inr (List.mem_flatMap.2 ⟨_, List.mem_of_getElem? ha, by simp [accBlk, e]⟩))
  · simp [accBlk] at hx
    subst hx
    exact ⟨.inl (by simp [accBlk]), by simpa [World.setRow] using lt_of_get hb⟩
  · refine .inr ⟨b, c, _, by simp, hrow, by simpa using hcs, by simpa using hle, ?_⟩
    simp only
    exact RepE.setOne hu (RepE.map hj 1 _ _ hre) hi

theorem map_set' {α : Type} (f : α → D) (l : List α) (i : Nat) (x : α) : (l.set i x).map f = (l.map f).set i (f x) := List.map_set

/-- Maps as lists of what was put, the latest at its first place. -/
def mget {κ β : Type} [DecidableEq κ] : List (κ × β) → κ → Option β
  | [], _ => none
  | (k, v) :: r, n => if n = k then some v else mget r n
def mput {κ β : Type} [DecidableEq κ] (n : κ) (v : β) : List (κ × β) → List (κ × β)
  | [] => [(n, v)]
  | (k, u) :: r => if n = k then (k, v) :: r else (k, u) :: mput n v r

def encM {κ β : Type} (f : β → Value) (l : List (κ × β)) : List (κ × Value) := l.map fun p => (p.1, f p.2)
theorem lookS_enc {β : Type} (f : β → Value) (n : ByteArray) : ∀ (l : List (ByteArray × β)), lookS (encM f l) n = (mget l n).map f
  | [] => rfl
  | (k, v) :: r => by
    have ih := lookS_enc f n r
    simp only [encM] at ih
    simp only [encM, List.map_cons, lookS, mget]
    split
    · rfl
    · exact ih
theorem putS_enc {β : Type} (f : β → Value) (n : ByteArray) (v : β) : ∀ (l : List (ByteArray × β)), putS n (f v) (encM f l) = encM f (mput n v l)
  | [] => rfl
  | (k, u) :: r => by
    have ih := putS_enc f n v r
    simp only [encM] at ih
    simp only [encM, List.map_cons, putS, mput]
    split
    · rfl
    · simp only [List.map_cons, ih]
theorem lookM_enc {β : Type} (f : β → Value) (n : Int) : ∀ (l : List (Int × β)), lookM (encM f l) n = (mget l n).map f
  | [] => rfl
  | (k, v) :: r => by
    have ih := lookM_enc f n r
    simp only [encM] at ih
    simp only [encM, List.map_cons, lookM, mget]
    split
    · rfl
    · exact ih
theorem putAt_enc {β : Type} (f : β → Value) (n : Int) (v : β) : ∀ (l : List (Int × β)), putAt n (f v) (encM f l) = encM f (mput n v l)
  | [] => rfl
  | (k, u) :: r => by
    have ih := putAt_enc f n v r
    simp only [encM] at ih
    simp only [encM, List.map_cons, putAt, mput]
    split
    · rfl
    · simp only [List.map_cons, ih]

theorem at_lookupSG {P : Program} {tt : Tab} (hT : TTOK P tt) {β : Type} (f : β → Value) (z : β) {t k e : TypeId} {x ix : SV} {S : St} {K : SV → St → Prop} {i : Nat} {n : ByteArray} {l : List (ByteArray × β)} {ok : Bool} (ht : tt t = some (.map k e)) (hk : P.underlying k = some .string) (hz : tt e = some (.cell (f z)))
    (hx : x = .mp i) (hi : nth S.own i = some (.obj (mapS (encM f l)))) (hix : ix = .v (.string n))
    (h : K (match ok with | true => .tup [.v (f ((mget l n).getD z)), .v (.bool (mget l n).isSome)] | false => .v (f ((mget l n).getD z))) S) : AtSem P (fun ℓ => Instr.lookup t (x.den ℓ) (ix.den ℓ) ok) S K := by
  refine at_lookupS hT (f z) ht hk (hT e _ hz).zero hx hi hix ?_ ?_
  · intro v hv
    rw [lookS_enc, Option.map_eq_some_iff] at hv
    obtain ⟨u, hu, rfl⟩ := hv
    cases ok <;> simpa [hu] using h
  · intro hv
    rw [lookS_enc, Option.map_eq_none_iff] at hv
    cases ok <;> simpa [hv] using h

theorem AtPure.le {P : Program} {m : List Base → Sem Value} {S S' : St} {K : SV → St → Prop} (h : StLe S S') (ho : S'.own = S.own) (k : AtPure P m S' K) : AtPure P m S K := by
  constructor
  intro J ℓ w hG hJ
  obtain ⟨h1, h2⟩ := h.2 J ℓ w hG
  rw [ho, ← hG.len, List.take_length] at h1 h2
  obtain ⟨r, ℓ', S'', a1, a2, a3, a4, a5, a6, a7⟩ := k.sem J ℓ w h1 hJ
  refine ⟨r, ℓ', S'', a1, a2, a3, a4, fun b hb => h2 b (a5 b hb), ?_, a7⟩
  intro i cs hi
  refine a6 i cs ?_
  rw [ho]; exact hi

/-- Two strings are put together. -/
theorem at_concat {P : Program} {t : TypeId} {x y : Operand} {a b : ByteArray} {S : St} {K : SV → St → Prop} (h : a.size + b.size ≤ 1000000) (k : K (.v (.string (a ++ b))) S) : AtPure P (fun ℓ => do eqGuard .add t x y ((SV.v (.string a)).den ℓ) ((SV.v (.string b)).den ℓ); binOp .add t ((SV.v (.string a)).den ℓ) ((SV.v (.string b)).den ℓ)) S K :=
  AtPure.val (.v (.string (a ++ b))) rfl (fun ℓ w => by
    have h1 : ¬ (((a.size + b.size : Nat) : Int) > IntKind.i64.max) := by
      have : IntKind.i64.max = 9223372036854775807 := by decide
      omega
    simp only [SV.den, Sem.run_bind, eqGuard_str, Result.andThen_ok, binOp, Op.stringOp]
    rw [if_neg h1]; rfl) k

end Go.Tr
end

/-! Hand -/
section
namespace Go.Proofs.YtogicnodmgdnbaaGreatDoor
open Go.Tr Go
set_option maxRecDepth 10000

theorem heads0 (hd : Int) (t : Tm) (k : Int) (l : List Int) (a a1 : Option Addr) (c c1 : Nat) (h1 : 0 ≤ k) (h2 : k + t.height ≤ 1000000) (h3 : l.length + t.count ≤ 1000000) :
    Pure Tryz.prog (fnS 118) [tmS t a c, iS hd, iS k, .v (.slice a1 (List.map (D.int .i64) l).length c1)] [tmR t a c, (.slice a1 (List.map (D.int .i64) l).length c1, .sl 1 (List.map (D.int .i64) l))]
      (fun r out => ∃ a' c', r = .v (.slice a' (List.map (D.int .i64) (headsF hd t k l)).length c') ∧ out = [(.slice a' (List.map (D.int .i64) (headsF hd t k l)).length c', .sl 1 (List.map (D.int .i64) (headsF hd t k l)))]) := by
  have := heads_spec hd t k l a a1 c c1 h1 h2 h3
  simp only [List.length_map]
  exact this
end Go.Proofs.YtogicnodmgdnbaaGreatDoor
end

/-! Lexis -/
section
namespace Go.Proofs.YtogicnodmgdnbaaGreatDoor
open Go.Tr Go
set_option maxRecDepth 10000

abbrev cS (c : UInt8) : SV := .v (.int .u8 c.toNat)
abbrev sS (s : ByteArray) : SV := .v (.string s)

def smallC (c : UInt8) : Bool := decide ((c.toNat : Int) ≥ 97) && decide ((c.toNat : Int) ≤ 122)
def capC (c : UInt8) : Bool := decide ((c.toNat : Int) ≥ 65) && decide ((c.toNat : Int) ≤ 90)
def digC (c : UInt8) : Bool := decide ((c.toNat : Int) ≥ 48) && decide ((c.toNat : Int) ≤ 57)
def nameC (c : UInt8) : Bool := (((smallC c || capC c) || digC c) || (c.toNat : Int) == 95) || (c.toNat : Int) == 39

/-- What lexis.name answers. -/
def nameF (f : UInt8 → Bool) (s : ByteArray) : Bool := match s.data.toList with
  | [] => false
  | c :: l => decide ((c :: l).length ≤ 16) && f c && (c :: l).all nameC

theorem small_spec' (c : UInt8) : Pure Tryz.prog (fnS 81) [cS c] [] (fun r out => r = bS (smallC c) ∧ out = []) := by
  refine spec_of_body (N := 9) (m := 0) (dt := fun _ => none) [] ttOK Tryz.func81 rfl Tryz.call81 Tryz.ntmps81 rfl rfl rfl mixed (by kernel_rfl) ?_
  exact AtRet.pure [] rfl (by simp) ⟨rfl, rfl⟩
theorem capital_spec (c : UInt8) : Pure Tryz.prog (fnS 135) [cS c] [] (fun r out => r = bS (capC c) ∧ out = []) := by
  refine spec_of_body (N := 9) (m := 0) (dt := fun _ => none) [] ttOK Tryz.func135 rfl Tryz.call135 Tryz.ntmps135 rfl rfl rfl mixed (by kernel_rfl) ?_
  exact AtRet.pure [] rfl (by simp) ⟨rfl, rfl⟩
theorem digit_spec (c : UInt8) : Pure Tryz.prog (fnS 136) [cS c] [] (fun r out => r = bS (digC c) ∧ out = []) := by
  refine spec_of_body (N := 9) (m := 0) (dt := fun _ => none) [] ttOK Tryz.func136 rfl Tryz.call136 Tryz.ntmps136 rfl rfl rfl mixed (by kernel_rfl) ?_
  exact AtRet.pure [] rfl (by simp) ⟨rfl, rfl⟩

theorem nameByte_spec (c : UInt8) : Pure Tryz.prog (fnS 109) [cS c] [] (fun r out => r = bS (nameC c) ∧ out = []) := by
  refine spec_of_body (N := 21) (m := 0) (dt := fun _ => none) [] ttOK Tryz.func109 rfl Tryz.call109 Tryz.ntmps109 rfl rfl rfl mixed (by kernel_rfl) ?_
  refine (small_spec' c).at (by simp) rfl rfl ?_
  rintro r out ⟨rfl, rfl⟩
  refine AtGuard.mk (fun h => ?_) (fun h => ?_)
  · have h : smallC c = false := h
    refine (capital_spec c).at (by simp) rfl rfl ?_
    rintro r out ⟨rfl, rfl⟩
    refine AtGuard.mk (fun h2 => ?_) (fun h2 => ?_)
    · have h2 : capC c = false := h2
      refine (digit_spec c).at (by simp) rfl rfl ?_
      rintro r out ⟨rfl, rfl⟩
      exact AtRet.pure [] rfl (by simp) ⟨by simp [nameC, h, h2], rfl⟩
    · have h2 : capC c = true := h2
      exact AtRet.pure [] rfl (by simp) ⟨by simp [nameC, h, h2], rfl⟩
  · have h : smallC c = true := h
    refine AtGuard.mk (fun h => by cases h) (fun _ => ?_)
    exact AtRet.pure [] rfl (by simp) ⟨by simp [nameC, h], rfl⟩

/-- A function of bytes that lexis.name asks. -/
def AsksByte (F : SV) (f : UInt8 → Bool) : Prop := ∀ c, Pure Tryz.prog (.val F) [cS c] [] (fun r out => r = bS (f c) ∧ out = [])

theorem name_spec (F : SV) (hF : F.wf 0 = true) (f : UInt8 → Bool) (hf : AsksByte F f) (s : ByteArray) : Pure Tryz.prog (fnS 80) [sS s, F] [] (fun r out => r = bS (nameF f s) ∧ out = []) := by
  have hsz : s.size = s.data.toList.length := rfl
  refine spec_of_body (N := 32) (m := 0) (dt := fun _ => none) [] ttOK Tryz.func80 rfl Tryz.call80 Tryz.ntmps80 rfl (by simp [SV.wfL, SV.wf, hF]) rfl mixed (by kernel_rfl) ?_
  have hN : nameF f s = match s.data.toList with
    | [] => false
    | c :: l => decide ((c :: l).length ≤ 16) && f c && (c :: l).all nameC := rfl
  refine AtGuard.mk (fun h => ?_) (fun h => ?_)
  · have h : (decide ((s.size : Int) < 1) || decide ((s.size : Int) > 16)) = false := h
    simp only [Bool.or_eq_false_iff, decide_eq_false_iff_not] at h
    obtain ⟨c, l, hl⟩ : ∃ c l, s.data.toList = c :: l := by
      cases hl : s.data.toList with
      | nil => have h0 : s.size = 0 := by rw [hsz, hl]; rfl
               omega
      | cons c l => exact ⟨c, l, rfl⟩
    rw [hl] at hN hsz
    have h16 : (c :: l).length ≤ 16 := by omega
    simp only [h16, decide_true, Bool.true_and] at hN
    refine at_index_str ttOK rfl rfl rfl (by decide) (b := c) (by rw [hl]; rfl) ?_
    refine (hf c).at (by simp) rfl hF ?_
    rintro r out ⟨rfl, rfl⟩
    refine AtIf.mk (fun h2 => ?_) (fun h2 => ?_)
    · have h2 : f c = false := by simpa using h2
      exact AtRet.pure [] rfl (by simp) ⟨by rw [hN, h2]; rfl, rfl⟩
    · have h2 : f c = true := by simpa using h2
      rw [h2, Bool.true_and] at hN
      refine AtLoop.mk ⟨Nat, fun i => [(23, iS i), (22, iS s.size), (0, sS s)], fun _ => ⟨[], [], []⟩,
        fun i => i ≤ (c :: l).length ∧ nameF f s = ((c :: l).drop i).all nameC, fun i => (c :: l).length - i, 0, ⟨Nat.zero_le _, hN⟩, ⟨rfl, rfl, rfl, trivial⟩, StLe.refl _, fun _ _ => ⟨rfl, rfl⟩, ?_⟩
      rintro i ⟨hi, hinv⟩
      refine AtIf.mk (fun h1 => ?_) (fun h1 => ?_)
      · simp only [decide_eq_true_eq, hsz] at h1
        obtain ⟨x, hx⟩ : ∃ x, (c :: l)[i]? = some x := ⟨_, List.getElem?_eq_getElem (by omega)⟩
        refine at_index_str ttOK rfl rfl rfl (by omega) (b := x) (by rw [Int.toNat_natCast, hl]; exact hx) ?_
        refine (nameByte_spec x).at (by simp) rfl rfl ?_
        rintro r out ⟨rfl, rfl⟩
        rw [drop_cons hx, List.all_cons] at hinv
        refine AtIf.mk (fun h3 => ?_) (fun h3 => ?_)
        · have h3 : nameC x = false := by simpa using h3
          exact AtRet.pure [] rfl (by simp) ⟨by rw [hinv, h3]; rfl, rfl⟩
        · have h3 : nameC x = true := by simpa using h3
          have hw3 : IntKind.i64.wrap (i + 1) = ((i + 1 : Nat) : Int) := wrap_i64 (by omega) (by omega)
          exact ⟨i + 1, ⟨by omega, by rw [hinv, h3]; rfl⟩, by simp only; omega, ⟨by rw [← hw3]; rfl, rfl, rfl, trivial⟩, StLe.to _ _ rfl (by simp) rfl rfl⟩
      · simp only [decide_eq_false_iff_not, hsz] at h1
        rw [List.drop_of_length_le (by omega)] at hinv
        exact AtRet.pure [] rfl (by simp) ⟨by rw [hinv]; rfl, rfl⟩
  · have h : (decide ((s.size : Int) < 1) || decide ((s.size : Int) > 16)) = true := h
    refine AtIf.mk (fun _ => ?_) (fun h => by cases h)
    have : nameF f s = false := by
      rw [hN]
      cases hl : s.data.toList with
      | nil => rfl
      | cons c l =>
        rw [hl] at hsz
        simp at hsz h
        simp
        omega
    exact AtRet.pure [] rfl (by simp) ⟨by rw [this], rfl⟩

def isSmallF (s : ByteArray) : Bool := nameF smallC s
def isCapitalF (s : ByteArray) : Bool := nameF capC s

theorem isSmall_spec (s : ByteArray) : Pure Tryz.prog (fnS 54) [sS s] [] (fun r out => r = bS (isSmallF s) ∧ out = []) := by
  refine spec_of_body (N := 5) (m := 0) (dt := fun _ => none) [] ttOK Tryz.func54 rfl Tryz.call54 Tryz.ntmps54 rfl rfl rfl mixed (by kernel_rfl) ?_
  refine (name_spec _ rfl smallC (fun c => small_spec' c) s).at (by simp) rfl rfl ?_
  rintro r out ⟨rfl, rfl⟩
  exact AtRet.pure [] rfl (by simp) ⟨rfl, rfl⟩
theorem isCapital_spec (s : ByteArray) : Pure Tryz.prog (fnS 111) [sS s] [] (fun r out => r = bS (isCapitalF s) ∧ out = []) := by
  refine spec_of_body (N := 5) (m := 0) (dt := fun _ => none) [] ttOK Tryz.func111 rfl Tryz.call111 Tryz.ntmps111 rfl rfl rfl mixed (by kernel_rfl) ?_
  refine (name_spec _ rfl capC (fun c => capital_spec c) s).at (by simp) rfl rfl ?_
  rintro r out ⟨rfl, rfl⟩
  exact AtRet.pure [] rfl (by simp) ⟨rfl, rfl⟩

/-- The reference's words. -/
def refNameF (s : ByteArray) : Bool := match s.data.toList with
  | [] => false
  | c :: l => decide ((c :: l).length ≤ 16) && (smallC c || capC c) && (c :: l).all nameC

theorem refSmall_spec (c : UInt8) : Pure Tryz.prog (fnS 117) [cS c] [] (fun r out => r = bS (smallC c) ∧ out = []) := by
  refine spec_of_body (N := 9) (m := 0) (dt := fun _ => none) [] ttOK Tryz.func117 rfl Tryz.call117 Tryz.ntmps117 rfl rfl rfl mixed (by kernel_rfl) ?_
  exact AtRet.pure [] rfl (by simp) ⟨rfl, rfl⟩
theorem refLetter_spec (c : UInt8) : Pure Tryz.prog (fnS 140) [cS c] [] (fun r out => r = bS (smallC c || capC c) ∧ out = []) := by
  refine spec_of_body (N := 13) (m := 0) (dt := fun _ => none) [] ttOK Tryz.func140 rfl Tryz.call140 Tryz.ntmps140 rfl rfl rfl mixed (by kernel_rfl) ?_
  refine (refSmall_spec c).at (by simp) rfl rfl ?_
  rintro r out ⟨rfl, rfl⟩
  exact AtRet.pure [] rfl (by simp) ⟨rfl, rfl⟩
theorem refByteOf_spec (c : UInt8) : Pure Tryz.prog (fnS 156) [cS c] [] (fun r out => r = bS (nameC c) ∧ out = []) := by
  refine spec_of_body (N := 21) (m := 0) (dt := fun _ => none) [] ttOK Tryz.func156 rfl Tryz.call156 Tryz.ntmps156 rfl rfl rfl mixed (by kernel_rfl) ?_
  refine (refLetter_spec c).at (by simp) rfl rfl ?_
  rintro r out ⟨rfl, rfl⟩
  exact AtRet.pure [] rfl (by simp) ⟨rfl, rfl⟩

/-- Behind the longest run of bytes of names. -/
def runF : List UInt8 → Nat
  | [] => 0
  | c :: l => if nameC c then runF l + 1 else 0
theorem runF_all : ∀ l, (runF l = l.length) ↔ l.all nameC = true
  | [] => by simp [runF]
  | c :: l => by
    have := runF_all l
    simp only [runF, List.all_cons, Bool.and_eq_true, List.length_cons]
    split
    · rename_i h; simp [h, this]
    · rename_i h; simp [h]
theorem run_spec (s : ByteArray) (hs : s.size ≤ 1000000) : Pure Tryz.prog (fnS 141) [sS s, iS 0] [] (fun r out => r = iS (runF s.data.toList) ∧ out = []) := by
  have hsz : s.size = s.data.toList.length := rfl
  refine spec_of_body (N := 18) (m := 0) (dt := fun _ => none) [] ttOK Tryz.func141 rfl Tryz.call141 Tryz.ntmps141 rfl rfl rfl mixed (by kernel_rfl) ?_
  refine AtLoop.mk ⟨Nat, fun i => [(1, iS i), (0, sS s)], fun _ => ⟨[], [], []⟩,
    fun i => i ≤ s.data.toList.length ∧ runF s.data.toList = i + runF (s.data.toList.drop i), fun i => s.data.toList.length - i, 0, ⟨Nat.zero_le _, by simp⟩, ⟨rfl, rfl, trivial⟩, StLe.refl _, fun _ _ => ⟨rfl, rfl⟩, ?_⟩
  rintro i ⟨hi, hinv⟩
  refine AtGuard.mk (fun h => ?_) (fun h => ?_)
  · have h : decide ((i : Int) < s.size) = true := h
    simp only [decide_eq_true_eq, hsz] at h
    obtain ⟨x, hx⟩ : ∃ x, s.data.toList[i]? = some x := ⟨_, List.getElem?_eq_getElem (by omega)⟩
    refine at_index_str ttOK rfl rfl rfl (by omega) (b := x) (by rw [Int.toNat_natCast]; exact hx) ?_
    refine (refByteOf_spec x).at (by simp) rfl rfl ?_
    rintro r out ⟨rfl, rfl⟩
    rw [drop_cons hx, runF] at hinv
    refine AtIf.mk (fun h3 => ?_) (fun h3 => ?_)
    · have h3 : nameC x = true := h3
      rw [if_pos h3] at hinv
      have hw3 : IntKind.i64.wrap (i + 1) = ((i + 1 : Nat) : Int) := wrap_i64 (by omega) (by omega)
      exact ⟨i + 1, ⟨by omega, by rw [hinv]; omega⟩, by simp only; omega, ⟨by rw [← hw3]; rfl, rfl, trivial⟩, StLe.to _ _ rfl (by simp) rfl rfl⟩
    · have h3 : nameC x = false := h3
      rw [h3] at hinv
      exact AtRet.pure [] rfl (by simp) ⟨by rw [hinv]; rfl, rfl⟩
  · have h : decide ((i : Int) < s.size) = false := h
    simp only [decide_eq_false_iff_not, hsz] at h
    rw [List.drop_of_length_le (by omega)] at hinv
    refine AtIf.mk (fun h3 => ?_) (fun h3 => ?_)
    · cases h3
    · exact AtRet.pure [] rfl (by simp) ⟨by rw [hinv]; rfl, rfl⟩

theorem refIsName_spec (s : ByteArray) : Pure Tryz.prog (fnS 116) [sS s] [] (fun r out => r = bS (refNameF s) ∧ out = []) := by
  have hsz : s.size = s.data.toList.length := rfl
  have hN : refNameF s = match s.data.toList with
    | [] => false
    | c :: l => decide ((c :: l).length ≤ 16) && (smallC c || capC c) && (c :: l).all nameC := rfl
  refine spec_of_body (N := 23) (m := 0) (dt := fun _ => none) [] ttOK Tryz.func116 rfl Tryz.call116 Tryz.ntmps116 rfl rfl rfl mixed (by kernel_rfl) ?_
  have hlow : (decide ((s.size : Int) ≥ 1) && decide ((s.size : Int) ≤ 16)) = false → refNameF s = false := by
    intro h
    rw [hN]
    cases hl : s.data.toList with
    | nil => rfl
    | cons c l =>
      rw [hl] at hsz
      simp at hsz h
      simp
      omega
  refine AtGuard.mk (fun h => ?_) (fun h => ?_)
  · have h : (decide ((s.size : Int) ≥ 1) && decide ((s.size : Int) ≤ 16)) = true := h
    simp only [Bool.and_eq_true, decide_eq_true_eq] at h
    obtain ⟨c, l, hl⟩ : ∃ c l, s.data.toList = c :: l := by
      cases hl : s.data.toList with
      | nil => have h0 : s.size = 0 := by rw [hsz, hl]; rfl
               omega
      | cons c l => exact ⟨c, l, rfl⟩
    have hsz' := hsz
    rw [hl] at hN hsz'
    have h16 : (c :: l).length ≤ 16 := by omega
    simp only [h16, decide_true, Bool.true_and] at hN
    refine at_index_str ttOK rfl rfl rfl (by decide) (b := c) (by rw [hl]; rfl) ?_
    refine (refLetter_spec c).at (by simp) rfl rfl ?_
    rintro r out ⟨rfl, rfl⟩
    refine AtGuard.mk (fun h2 => ?_) (fun h2 => ?_)
    · have h2 : (smallC c || capC c) = true := h2
      refine (run_spec s (by omega)).at (by simp) rfl rfl ?_
      rintro r out ⟨rfl, rfl⟩
      refine AtRet.pure [] rfl (by simp) ⟨?_, rfl⟩
      rw [hN, h2, Bool.true_and, ← hl]
      have := runF_all s.data.toList
      have e : (((runF s.data.toList : Nat) : Int) == (s.size : Int)) = s.data.toList.all nameC := by
        rw [Bool.eq_iff_iff, ← this, beq_iff_eq, hsz]; omega
      rw [e]
    · have h2 : (smallC c || capC c) = false := h2
      exact AtRet.pure [] rfl (by simp) ⟨by rw [hN, h2]; rfl, rfl⟩
  · have h : (decide ((s.size : Int) ≥ 1) && decide ((s.size : Int) ≤ 16)) = false := h
    refine AtGuard.mk (fun h => by cases h) (fun _ => ?_)
    exact AtRet.pure [] rfl (by simp) ⟨by rw [hlow h], rfl⟩

/-- A name is a small or a capital one. -/
theorem refNameF_eq (s : ByteArray) : refNameF s = (isSmallF s || isCapitalF s) := by
  unfold refNameF isSmallF isCapitalF nameF
  cases s.data.toList with
  | nil => rfl
  | cons c l => simp only; cases decide ((c :: l).length ≤ 16) <;> cases smallC c <;> cases capC c <;> cases (c :: l).all nameC <;> rfl

theorem refIsSmall_spec (s : ByteArray) : Pure Tryz.prog (fnS 88) [sS s] [] (fun r out => r = bS (isSmallF s) ∧ out = []) := by
  refine spec_of_body (N := 10) (m := 0) (dt := fun _ => none) [] ttOK Tryz.func88 rfl Tryz.call88 Tryz.ntmps88 rfl rfl rfl mixed (by kernel_rfl) ?_
  refine (refIsName_spec s).at (by simp) rfl rfl ?_
  rintro r out ⟨rfl, rfl⟩
  refine AtGuard.mk (fun h => ?_) (fun h => ?_)
  · have h : refNameF s = true := h
    obtain ⟨c, l, hl⟩ : ∃ c l, s.data.toList = c :: l := by
      cases hl : s.data.toList with
      | nil => rw [refNameF, hl] at h; cases h
      | cons c l => exact ⟨c, l, rfl⟩
    refine at_index_str ttOK rfl rfl rfl (by decide) (b := c) (by rw [hl]; rfl) ?_
    refine (refSmall_spec c).at (by simp) rfl rfl ?_
    rintro r out ⟨rfl, rfl⟩
    refine AtRet.pure [] rfl (by simp) ⟨?_, rfl⟩
    simp only [refNameF, isSmallF, nameF, hl, Bool.and_eq_true] at h ⊢
    rw [h.2, h.1.1]
    cases smallC c <;> rfl
  · have h : refNameF s = false := h
    refine AtRet.pure [] rfl (by simp) ⟨?_, rfl⟩
    rw [refNameF_eq, Bool.or_eq_false_iff] at h
    rw [h.1]
end Go.Proofs.YtogicnodmgdnbaaGreatDoor
end

/-! Strs -/
section
namespace Go.Proofs.YtogicnodmgdnbaaGreatDoor
open Go.Tr Go
set_option maxRecDepth 10000

abbrev stD (l : List ByteArray) : List D := l.map D.str
abbrev stS (l : List ByteArray) (a : Option Addr) (c : Nat) : SV := .v (.slice a (stD l).length c)
abbrev stR (l : List ByteArray) (a : Option Addr) (c : Nat) : Value × D := (.slice a (stD l).length c, .sl 1 (stD l))
theorem stD_get {l : List ByteArray} {i : Nat} {x : ByteArray} (h : l[i]? = some x) : (stD l)[i]? = some (.str x) := by rw [List.getElem?_map, h]; rfl

/-- Where a string stands in a list. -/
def idxS (v : ByteArray) : List ByteArray → Nat → Int
  | [], _ => -1
  | x :: l, i => if v.toList == x.toList then (i : Int) else idxS v l (i + 1)

theorem indexS_spec (l : List ByteArray) (v : ByteArray) (a : Option Addr) (c : Nat) : Pure Tryz.prog (fnS 110) [stS l a c, sS v] [stR l a c] (fun r out => r = iS (idxS v l 0) ∧ out = []) := by
  refine Meets.of_ok fun hok => ?_
  have hB : (stD l).length ≤ 1152921504606846976 := (hok _ (List.mem_cons_self ..)).1
  have hlen : (stD l).length = l.length := List.length_map ..
  refine spec_of_body (N := 19) (m := 0) (dt := fun _ => none) [] ttOK Tryz.func110 rfl Tryz.call110 Tryz.ntmps110 rfl rfl rfl mixed (by kernel_rfl) ?_
  refine AtLoop.mk ⟨Nat, fun i => [(8, iS i), (7, iS (stD l).length), (0, stS l a c), (1, sS v)], fun _ => ⟨[], [], [stR l a c]⟩,
    fun i => i ≤ l.length ∧ idxS v l 0 = idxS v (l.drop i) i, fun i => l.length - i, 0, ⟨Nat.zero_le _, rfl⟩, ⟨rfl, rfl, rfl, rfl, trivial⟩, StLe.refl _, fun _ _ => ⟨rfl, rfl⟩, ?_⟩
  rintro i ⟨hi, hinv⟩
  refine AtIf.mk (fun h1 => ?_) (fun h1 => ?_)
  · simp only [decide_eq_true_eq, hlen] at h1
    obtain ⟨x, hx⟩ : ∃ x, l[i]? = some x := ⟨_, List.getElem?_eq_getElem (by omega)⟩
    refine at_index ttOK 0 rfl rfl rfl rfl (by omega) (by rw [Int.toNat_natCast]; exact stD_get hx) ?_
    rw [drop_cons hx, idxS] at hinv
    refine AtIf.mk (fun h2 => ?_) (fun h2 => ?_)
    · have h2 : (v.toList == x.toList) = true := h2
      rw [if_pos h2] at hinv
      exact AtRet.pure [] rfl (by simp) ⟨by rw [hinv], rfl⟩
    · have h2 : (v.toList == x.toList) = false := h2
      rw [h2] at hinv
      have hw3 : IntKind.i64.wrap (i + 1) = ((i + 1 : Nat) : Int) := wrap_i64 (by omega) (by omega)
      exact ⟨i + 1, ⟨by omega, hinv⟩, by simp only; omega, ⟨by rw [← hw3]; rfl, rfl, rfl, rfl, trivial⟩, StLe.to _ _ rfl (by simp) rfl rfl⟩
  · simp only [decide_eq_false_iff_not, hlen] at h1
    rw [List.drop_of_length_le (by omega)] at hinv
    exact AtRet.pure [] rfl (by simp) ⟨by rw [hinv]; rfl, rfl⟩

/-- A string stands in a list. -/
def hasS (v : ByteArray) (l : List ByteArray) : Bool := decide (idxS v l 0 ≥ 0)

theorem containsS_spec (l : List ByteArray) (v : ByteArray) (a : Option Addr) (c : Nat) : Pure Tryz.prog (fnS 83) [stS l a c, sS v] [stR l a c] (fun r out => r = bS (hasS v l) ∧ out = []) := by
  refine spec_of_body (N := 9) (m := 0) (dt := fun _ => none) [] ttOK Tryz.func83 rfl Tryz.call83 Tryz.ntmps83 rfl rfl rfl mixed (by kernel_rfl) ?_
  refine (indexS_spec l v a c).at (by simp) rfl rfl ?_
  rintro r out ⟨rfl, rfl⟩
  exact AtRet.pure [] rfl (by simp) ⟨rfl, rfl⟩

end Go.Proofs.YtogicnodmgdnbaaGreatDoor
end

/-! Raws -/
section
namespace Go.Proofs.YtogicnodmgdnbaaGreatDoor
open Go.Tr Go
set_option maxRecDepth 10000

inductive Rw where
  | mk (op : Int) (name : ByteArray) (args : List Rw)

def Rw.op : Rw → Int | .mk o _ _ => o
def Rw.name : Rw → ByteArray | .mk _ s _ => s
def Rw.args : Rw → List Rw | .mk _ _ a => a

mutual
def Rw.enc : Rw → D
  | .mk o s a => .agg [.int .i64 o, .str s, .sl 3 (Rw.encL a)]
def Rw.encL : List Rw → List D
  | [] => []
  | t :: ts => t.enc :: Rw.encL ts
 end
theorem Rw.encL_eq : ∀ (l : List Rw), Rw.encL l = l.map Rw.enc
  | [] => rfl
  | t :: ts => by simp only [Rw.encL, List.map_cons, Rw.encL_eq ts]
theorem Rw.encL_length (l : List Rw) : (Rw.encL l).length = l.length := by simp [Rw.encL_eq]
theorem Rw.enc_eq (t : Rw) : t.enc = .agg [.int .i64 t.op, .str t.name, .sl 3 (Rw.encL t.args)] := by cases t; rfl
theorem Rw.encL_get {l : List Rw} {i : Nat} {t : Rw} (h : l[i]? = some t) : (Rw.encL l)[i]? = some (.agg [.int .i64 t.op, .str t.name, .sl 3 (Rw.encL t.args)]) := by
  rw [Rw.encL_eq, List.getElem?_map, h]; cases t; rfl

theorem Rw.ind {motive : Rw → Prop} (h : ∀ t, (∀ x ∈ t.args, motive x) → motive t) (t : Rw) : motive t := by
  induction t using Rw.rec (motive_2 := fun ts => ∀ x ∈ ts, motive x) with
  | nil => rename_i x hx; cases hx
  | cons t ts ih1 ih2 => rename_i x hx; rcases List.mem_cons.1 hx with e | e; (subst e; exact ih1); exact ih2 x e
  | mk op name args ih => exact h _ ih

abbrev rwS (t : Rw) (a : Option Addr) (c : Nat) : SV := .agg [.v (.int .i64 t.op), .v (.string t.name), .v (.slice a (Rw.encL t.args).length c)]
abbrev rwR (t : Rw) (a : Option Addr) (c : Nat) : Value × D := (.slice a (Rw.encL t.args).length c, .sl 3 (Rw.encL t.args))

abbrev tyB : ByteArray := ⟨#[116, 121, 112, 101]⟩
abbrev emB : ByteArray := ⟨#[]⟩

/-- A name other than type. -/
def namedF (s : ByteArray) : Bool := isCapitalF s || (isSmallF s && !(s.toList == tyB.toList))

def rawArgs (op : Int) : Int := if op = 4 ∨ op = 5 ∨ op = 6 ∨ op = 7 then 2 else 0
def rawHas (op : Int) : Bool := op == 2 || op == 5 || op == 7
def rawOp (op : Int) : Bool := decide (1 ≤ op ∧ op ≤ 7)
def okRaw (op : Int) (s : ByteArray) (len : Nat) : Bool := rawOp op && ((len : Int) == rawArgs op) && (rawHas op == namedF s) && (rawHas op || s.toList == emB.toList)

mutual
/-- The nodes of a raw expression, as a term: those that are not built as nodes are, have no Op. -/
def Rw.sk : Rw → Tm
  | .mk o s a => .mk (if okRaw o s a.length then 4 else 0) 1 0 (Rw.skL a)
def Rw.skL : List Rw → List Tm
  | [] => []
  | t :: ts => t.sk :: Rw.skL ts
 end
theorem Rw.sk_eq (t : Rw) : t.sk = .mk (if okRaw t.op t.name t.args.length then 4 else 0) 1 0 (Rw.skL t.args) := by cases t; rfl
theorem sk_ok (o : Int) (s : ByteArray) (len m : Nat) : okNode (if okRaw o s len then 4 else 0) 1 0 m = okRaw o s len := by
  cases okRaw o s len <;> simp [okNode]

theorem named_spec (s : ByteArray) : Pure Tryz.prog (fnS 84) [sS s] [] (fun r out => r = bS (namedF s) ∧ out = []) := by
  refine spec_of_body (N := 13) (m := 0) (dt := fun _ => none) [] ttOK Tryz.func84 rfl Tryz.call84 Tryz.ntmps84 rfl rfl rfl mixed (by kernel_rfl) ?_
  refine (isCapital_spec s).at (by simp) rfl rfl ?_
  rintro r out ⟨rfl, rfl⟩
  refine AtGuard.mk (fun h => ?_) (fun h => ?_)
  · have h : isCapitalF s = false := h
    refine (isSmall_spec s).at (by simp) rfl rfl ?_
    rintro r out ⟨rfl, rfl⟩
    exact AtRet.pure [] rfl (by simp) ⟨by rw [namedF, h]; rfl, rfl⟩
  · have h : isCapitalF s = true := h
    exact AtRet.pure [] rfl (by simp) ⟨by rw [namedF, h]; rfl, rfl⟩

theorem formedRaw_spec (t : Rw) : ∀ (depth k : Int) (a : Option Addr) (c : Nat), 0 ≤ depth → depth ≤ 41 → 0 ≤ k → k ≤ 400 →
    Meets Tryz.prog (fnS 82) [rwS t a c, iS depth, .loc 0 0] ⟨[.cells 3 [iS k]], [], [rwR t a c]⟩
      (fun o S' => o = .ret (bS (properF t.sk depth (k + 200)).1) ∧ S' = ⟨[.cells 3 [iS ((properF t.sk depth (k + 200)).2 - 200)]], [], []⟩) := by
  induction t using Rw.ind with
  | h t ih =>
  intro depth k a c hd1 hd2 hk1 hk2
  refine Meets.of_ok fun hok => ?_
  have hB : (Rw.encL t.args).length ≤ 1152921504606846976 := (hok _ (List.mem_cons_self ..)).1
  have hlen := Rw.encL_length t.args
  refine spec_of_body (N := 72) (m := 1) (dt := fun _ => none) [5] ttOK Tryz.func82 rfl Tryz.call82 Tryz.ntmps82 rfl rfl rfl mixed (by kernel_rfl) ?_
  have hw : IntKind.i64.wrap (k + 1) = k + 1 := wrap_i64 (by omega) (by omega)
  have hF := properF_eq t.sk depth (k + 200)
  rw [Rw.sk_eq] at hF
  simp only [Tm.op, Tm.hd, Tm.n, Tm.args, sk_ok] at hF
  rw [← Rw.sk_eq] at hF
  refine AtIf.mk ?_ ?_
  · intro h
    rw [hw] at h
    refine ret_own [.cells 3 [iS (k + 1)]] (by simp only [hw]; rfl) rfl rfl rfl rfl ?_
    have h : 400 < k + 1 ∨ 40 < depth := by simpa using h
    rw [hF, if_pos (by omega)]
    have e : k + 200 + 1 - 200 = k + 1 := by omega
    exact ⟨rfl, by simp only [e]⟩
  · intro h
    rw [hw] at h
    have hno : ¬ (400 < k + 1 ∨ 40 < depth) := by simpa using h
    rw [if_neg (by omega)] at hF
    refine AtCut.mk ⟨Unit, fun _ => [(7, iS (rawArgs t.op)), (8, bS (rawHas t.op)), (3, .loc 1 0), (1, iS depth), (2, .loc 0 0)],
      fun _ => ⟨[.cells 3 [iS (k + 1)], .cells 30 [iS t.op, sS t.name, .v (.slice a (Rw.encL t.args).length c)]], [], [rwR t a c]⟩,
      fun _ => rawOp t.op = true, fun _ _ => ⟨rfl, rfl⟩, ?_, ?_⟩
    · rw [hw]
      have fin : ∀ {n : Int} {b : Bool} {env : Env} {S : St}, n = rawArgs t.op → b = rawHas t.op → rawOp t.op = true → S = ⟨[.cells 3 [iS (k + 1)], .cells 30 [iS t.op, sS t.name, .v (.slice a (Rw.encL t.args).length c)]], [], [rwR t a c]⟩ →
          envLe env [(7, iS n), (8, bS b), (3, .loc 1 0), (1, iS depth), (2, .loc 0 0)] →
          ∃ x : Unit, rawOp t.op = true ∧ envLe env [(7, iS (rawArgs t.op)), (8, bS (rawHas t.op)), (3, .loc 1 0), (1, iS depth), (2, .loc 0 0)] ∧ StLe S ⟨[.cells 3 [iS (k + 1)], .cells 30 [iS t.op, sS t.name, .v (.slice a (Rw.encL t.args).length c)]], [], [rwR t a c]⟩ := by
        rintro n b env S rfl rfl ho rfl he
        exact ⟨(), ho, he, StLe.refl _⟩
      have hop : t.op = 1 ∨ t.op = 2 ∨ t.op = 3 ∨ t.op = 4 ∨ t.op = 5 ∨ t.op = 6 ∨ t.op = 7 ∨ (t.op ≠ 1 ∧ t.op ≠ 2 ∧ t.op ≠ 3 ∧ t.op ≠ 4 ∧ t.op ≠ 5 ∧ t.op ≠ 6 ∧ t.op ≠ 7) := by omega
      rcases hop with ho | ho | ho | ho | ho | ho | ho | ⟨h1, h2, h3, h4, h5, h6, h7⟩
      iterate 7
        · repeat (refine AtIf.mk (fun h => ?_) (fun h => ?_) <;> first | (exfalso; simp [ho] at h; done) | skip)
          exact fin (by rw [ho]; rfl) (by rw [ho]; rfl) (by rw [ho]; rfl) rfl ⟨rfl, rfl, rfl, rfl, rfl, trivial⟩
      · repeat (refine AtIf.mk (fun h => ?_) (fun h => ?_) <;> first | (exfalso; simp [h1, h2, h3, h4, h5, h6, h7] at h; done) | skip)
        refine ret_own [.cells 3 [iS (k + 1)]] rfl rfl rfl rfl rfl ?_
        have : okRaw t.op t.name t.args.length = false := by
          have : rawOp t.op = false := by simp [rawOp]; omega
          rw [okRaw, this]; rfl
        rw [hF, this]
        have e : k + 200 + 1 - 200 = k + 1 := by omega
        exact ⟨rfl, by simp only [Bool.false_eq_true, if_false, e]⟩
    · intro _ hop
      have hE : okRaw t.op t.name t.args.length = (((t.args.length : Int) == rawArgs t.op) && (rawHas t.op == namedF t.name) && (rawHas t.op || t.name.toList == emB.toList)) := by
        rw [okRaw, hop, Bool.true_and]
      have bad : okRaw t.op t.name t.args.length = false → properF t.sk depth (k + 200) = (false, k + 200 + 1) := by
        intro h; rw [hF, h]; rfl
      have e : k + 200 + 1 - 200 = k + 1 := by omega
      have hend : okRaw t.op t.name t.args.length = false → bS false = bS (properF t.sk depth (k + 200)).1 ∧ ([.cells 3 [iS (k + 1)]] : List Blk) = [.cells 3 [iS ((properF t.sk depth (k + 200)).2 - 200)]] := by
        intro h; rw [bad h]; simp only [e]; exact ⟨trivial, trivial⟩
      refine AtGuard.mk (fun h1 => ?_) (fun h1 => ?_)
      rotate_left
      · refine AtIf.mk (fun _ => ?_) (fun h => by cases h)
        have h1 : ((((Rw.encL t.args).length : Nat) : Int) != rawArgs t.op) = true := h1
        refine ret_own [.cells 3 [iS (k + 1)]] rfl rfl rfl rfl rfl ?_
        have : okRaw t.op t.name t.args.length = false := by
          rw [hE]
          simp [hlen] at h1
          simp [h1]
        obtain ⟨e1, e2⟩ := hend this
        exact ⟨by rw [← e1], by rw [← e2]⟩
      refine (named_spec t.name).at (by simp) rfl rfl ?_
      rintro r out ⟨rfl, rfl⟩
      refine at_boolNe ?_
      have h1 : ((((Rw.encL t.args).length : Nat) : Int) != rawArgs t.op) = false := h1
      refine AtIf.mk (fun h2 => ?_) (fun h2 => ?_)
      · refine ret_own [.cells 3 [iS (k + 1)]] rfl rfl rfl rfl rfl ?_
        have : okRaw t.op t.name t.args.length = false := by
          have h2 : ((rawHas t.op != namedF t.name) || (!rawHas t.op && !(t.name.toList == emB.toList))) = true := h2
          rw [hE]
          revert h2
          cases rawHas t.op <;> cases namedF t.name <;> cases (t.name.toList == emB.toList) <;> simp
        obtain ⟨e1, e2⟩ := hend this
        exact ⟨by rw [← e1], by rw [← e2]⟩
      have hokR : okRaw t.op t.name t.args.length = true := by
        have h2 : ((rawHas t.op != namedF t.name) || (!rawHas t.op && !(t.name.toList == emB.toList))) = false := h2
        simp [hlen] at h1
        rw [hE, h1]
        revert h2
        cases rawHas t.op <;> cases namedF t.name <;> cases (t.name.toList == emB.toList) <;> simp
      rw [hokR, if_pos rfl] at hF
      refine AtLoop.mk ⟨Nat × Int, fun x => [(61, iS x.1), (60, iS (Rw.encL t.args).length), (59, .v (.slice a (Rw.encL t.args).length c)), (3, .loc 1 0), (1, iS depth), (2, .loc 0 0)],
        fun x => ⟨[.cells 3 [iS x.2], .cells 30 [iS t.op, sS t.name, .v (.slice a (Rw.encL t.args).length c)]], [], [rwR t a c]⟩,
        fun x => x.1 ≤ t.args.length ∧ 0 ≤ x.2 ∧ x.2 ≤ 400 ∧ properF t.sk depth (k + 200) = properL (Rw.skL (t.args.drop x.1)) (depth + 1) (x.2 + 200),
        fun x => t.args.length - x.1, (0, k + 1), ⟨Nat.zero_le _, by simp only; omega, by simp only; omega, by simp only [List.drop_zero]; rw [hF]; congr 1; omega⟩, ⟨rfl, rfl, rfl, rfl, rfl, rfl, trivial⟩, StLe.refl _, fun x _ => ⟨rfl, rfl⟩, ?_⟩
      rintro ⟨i, kk⟩ ⟨hi, hk0, hk4, hinv⟩
      simp only at hi hk0 hk4 hinv ⊢
      refine AtIf.mk (fun h3 => ?_) (fun h3 => ?_)
      · simp only [decide_eq_true_eq, hlen] at h3
        obtain ⟨t', ht'⟩ : ∃ t', t.args[i]? = some t' := ⟨_, List.getElem?_eq_getElem (by omega)⟩
        refine at_index ttOK 0 rfl rfl rfl rfl (by omega) (by rw [Int.toNat_natCast]; exact Rw.encL_get ht') ?_
        intro a' c' _ _
        have hw2 : IntKind.i64.wrap (depth + 1) = depth + 1 := wrap_i64 (by omega) (by omega)
        have hspec := ih t' (List.mem_of_getElem? ht') (depth + 1) kk a' c' (by omega) (by omega) hk0 hk4
        refine hspec.frame [0] rfl (by simp only [hw2]; rfl) (by simp) rfl ?_ ?_ rfl rfl ?_
        · intro p q hp
          match p, hp with
          | 0, hp => simp at hp; subst hp; exact ⟨0, rfl, rfl, rfl⟩
        · intro p hp; simp at hp; subst hp; exact List.mem_cons_of_mem _ (List.mem_cons_self ..)
        · rintro o s' ⟨rfl, rfl⟩
          refine ⟨rfl, rfl, [.cells 3 [iS ((properF t'.sk (depth + 1) (kk + 200)).2 - 200)]], rfl, ?_⟩
          have hle := properF_le t'.sk (depth + 1) (kk + 200) (by omega) (by omega)
          rw [drop_cons ht', Rw.skL, properL] at hinv
          cases hp : properF t'.sk (depth + 1) (kk + 200) with
          | mk b k' =>
            rw [hp] at hinv hle
            refine AtIf.mk (fun h4 => ?_) (fun h4 => ?_)
            · have h4 : b = false := by simpa using h4
              subst h4
              refine ret_own [.cells 3 [iS (k' - 200)]] rfl rfl rfl rfl rfl ?_
              rw [hinv]
              exact ⟨rfl, rfl⟩
            · have h4 : b = true := by simpa using h4
              subst h4
              have hw3 : IntKind.i64.wrap (i + 1) = ((i + 1 : Nat) : Int) := wrap_i64 (by omega) (by omega)
              have h6 := hle.2.2 rfl
              simp only at hle h6 hinv
              refine ⟨(i + 1, k' - 200), ⟨by omega, by simp only; omega, by simp only; omega, ?_⟩, by simp only; omega, ⟨by rw [← hw3]; rfl, rfl, rfl, rfl, rfl, rfl, trivial⟩, StLe.to _ _ rfl (by simp) rfl rfl⟩
              rw [hinv]
              simp only
              congr 1
              omega
      · simp only [decide_eq_false_iff_not, hlen] at h3
        rw [List.drop_of_length_le (by omega)] at hinv
        refine ret_own [.cells 3 [iS kk]] rfl rfl rfl rfl rfl ?_
        rw [hinv]
        have e : kk + 200 - 200 = kk := by omega
        simp only [Rw.skL, properL, e]
        exact ⟨trivial, trivial⟩

/-- A raw expression is well formed. -/
def rawOK (t : Rw) : Bool := (properF t.sk 1 200).1

theorem checkRaw_spec (t : Rw) (a : Option Addr) (c : Nat) : Pure Tryz.prog (fnS 55) [rwS t a c] [rwR t a c] (fun r out => r = iS (if rawOK t then 0 else 2) ∧ out = []) := by
  refine spec_of_body (N := 7) (m := 0) (dt := fun _ => none) [] ttOK Tryz.func55 rfl Tryz.call55 Tryz.ntmps55 rfl rfl rfl mixed (by kernel_rfl) ?_
  have hs := formedRaw_spec t 1 0 a c (by omega) (by omega) (by omega) (by omega)
  refine hs.frame [1] rfl rfl (by decide) rfl ?_ (by simp) rfl rfl ?_
  · intro p q hp
    match p, hp with
    | 0, hp => simp at hp; subst hp; exact ⟨1, rfl, rfl, rfl⟩
  rintro o s' ⟨rfl, rfl⟩
  refine ⟨rfl, rfl, [.cells 3 [iS ((properF t.sk 1 (0 + 200)).2 - 200)]], rfl, ?_⟩
  refine AtIf.mk (fun h => ?_) (fun h => ?_)
  · refine AtRet.pure [] rfl (by simp) ⟨?_, rfl⟩
    have h : (properF t.sk 1 200).1 = false := by simpa using h
    have h : rawOK t = false := h
    simp [h]
  · refine AtRet.pure [] rfl (by simp) ⟨?_, rfl⟩
    have h : (properF t.sk 1 200).1 = true := by simpa using h
    have h : rawOK t = true := h
    simp [h]

def emptyRaw (t : Rw) : Bool := ((t.op == 0) && (t.name.toList == emB.toList)) && ((t.args.length : Int) == 0)

theorem empty_spec (t : Rw) (a : Option Addr) (c : Nat) : Pure Tryz.prog (fnS 56) [rwS t a c] [rwR t a c] (fun r out => r = bS (emptyRaw t) ∧ out = []) := by
  have hlen := Rw.encL_length t.args
  refine spec_of_body (N := 17) (m := 0) (dt := fun _ => none) [] ttOK Tryz.func56 rfl Tryz.call56 Tryz.ntmps56 rfl rfl rfl mixed (by kernel_rfl) ?_
  exact AtRet.pure [] rfl (by simp) ⟨by rw [emptyRaw, ← hlen], rfl⟩
end Go.Proofs.YtogicnodmgdnbaaGreatDoor
end

/-! RawsB -/
section
namespace Go.Proofs.YtogicnodmgdnbaaGreatDoor
open Go.Tr Go
set_option maxRecDepth 10000

end Go.Proofs.YtogicnodmgdnbaaGreatDoor
end
