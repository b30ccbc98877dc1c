/- What stepPure says is what the model answers (stepPure_sound). Condition: the getter and the own blocks describe the world (PCtx). -/
import Derived.Test.YtjjgfenincdgpaaFwB
import Derived.Tactics
namespace Go.Tr
open Go
set_option linter.unusedSimpArgs false

theorem denL_get (ℓ : List Base) : ∀ (cs : List SV) (j : Nat), (SV.denL ℓ cs)[j]? = (cs[j]?).map (SV.den ℓ) := by
  intro cs j; rw [SV.denL_eq, List.getElem?_map]

structure PCtx (P : Program) (tt : Tab) (J : Nat → Prop) (ℓ : List Base) (own : List Blk) (n : Nat) (ρ : Operand → Value) (kn : List (Nat × Bool)) (get : Getter) (w : World) : Prop where
  hT : TTOK P tt
  const : ∀ v, ρ (.const v) = v
  get0 : ∀ x s, get [] x = some s → s.wf n = true ∧ ρ x = s.den ℓ
  get1 : ∀ g b x s, get [(g, b)] x = some s → ρ (.tmp g) = .bool b → s.wf n = true ∧ ρ x = s.den ℓ
  hkn : ∀ g b, knownOf kn g = some b → ρ (.tmp g) = .bool b
  own : ∀ i cs, cellsIn (nth own i) = some cs → SV.wfL n cs = true ∧ ∃ b, ℓ[i]? = some b ∧ ∀ j v, (SV.denL ℓ cs)[j]? = some v → w.cell? ⟨b.block, b.off + j, none⟩ = some v

section
variable {P : Program} {tt : Tab} {J : Nat → Prop} {ℓ : List Base} {own : List Blk} {n : Nat} {ρ : Operand → Value} {kn : List (Nat × Bool)} {get : Getter} {w : World}

theorem cells_of_ok {k : Blk} {b : Base} {cs : List SV} (hwf : k.wf n = true) (hok : BlkOK J ℓ w b k) (h : cellsIn (some k) = some cs) :
    SV.wfL n cs = true ∧ ∀ j v, (SV.denL ℓ cs)[j]? = some v → w.cell? ⟨b.block, b.off + j, none⟩ = some v := by
  cases k with
  | cells T c =>
    simp only [cellsIn, Option.some.injEq] at h
    subst h
    simp only [BlkOK] at hok
    refine ⟨hwf, fun j v hj => ?_⟩
    simp only [World.cell?, hok.2, hok.1, Nat.zero_add]
    simpa using hj
  | imm c =>
    simp only [cellsIn, Option.some.injEq] at h
    subst h
    simp only [BlkOK] at hok
    obtain ⟨_, c', T, fz, hb', k', ht⟩ := hok
    refine ⟨hwf, fun j v hj => ?_⟩
    rw [← ht, List.getElem?_take] at hj
    split at hj
    · rw [List.getElem?_drop] at hj
      simp only [World.cell?, hb']
      simpa using hj
    · cases hj
  | obj o => simp [cellsIn] at h
  | dead => simp [cellsIn] at h
  | lp x => simp [cellsIn] at h
  | iter i s n p => simp [cellsIn] at h

theorem PCtx.cells (C : PCtx P tt J ℓ own n ρ kn get w) {i : Nat} {cs : List SV} (h : cellsIn (nth own i) = some cs) :
    SV.wfL n cs = true ∧ ∃ b, ℓ[i]? = some b ∧ ∀ j v, (SV.denL ℓ cs)[j]? = some v → w.cell? ⟨b.block, b.off + j, none⟩ = some v := C.own i cs h

theorem wfL_get {n : Nat} {cs : List SV} (h : SV.wfL n cs = true) {j : Nat} {s : SV} (hj : nth cs j = some s) : s.wf n = true := by
  rw [nth_eq] at hj
  exact SV.wfL_iff.1 h s (List.mem_of_getElem? hj)

theorem wfL_take {n : Nat} {cs : List SV} (h : SV.wfL n cs = true) (j : Nat) : SV.wfL n (cs.take j) = true :=
  SV.wfL_iff.2 fun s hs => SV.wfL_iff.1 h s (List.mem_of_mem_take hs)
theorem wfL_drop {n : Nat} {cs : List SV} (h : SV.wfL n cs = true) (j : Nat) : SV.wfL n (cs.drop j) = true :=
  SV.wfL_iff.2 fun s hs => SV.wfL_iff.1 h s (List.mem_of_mem_drop hs)
theorem wfL_append {n : Nat} {a b : List SV} (h : SV.wfL n a = true) (h' : SV.wfL n b = true) : SV.wfL n (a ++ b) = true :=
  SV.wfL_iff.2 fun s hs => by rcases List.mem_append.1 hs with h1 | h1; exact SV.wfL_iff.1 h s h1; exact SV.wfL_iff.1 h' s h1

theorem load_cell (C : PCtx P tt J ℓ own n ρ kn get w) {t : TypeId} (hagg : ∀ w, (isAgg t).run P w = .ok false w) {i o : Nat} {cs : List SV} (h : cellsIn (nth own i) = some cs) {s : SV} (hs : nth cs o = some s) :
    s.wf n = true ∧ (Instr.loadAt t ((SV.loc i o).den ℓ)).run P w = .ok (s.den ℓ) w := by
  obtain ⟨hw, b, hb, hc⟩ := C.cells h
  refine ⟨wfL_get hw hs, ?_⟩
  have hv := hc o (s.den ℓ) (by rw [denL_get, ← nth_eq, hs]; rfl)
  have hd : ℓ.getD i default = b := by simp [List.getD, hb]
  simp only [SV.den, hd, Instr.loadAt, Instr.sureAddr, pure_bind, loadVar, Sem.run_bind, hagg, Result.andThen_ok, Bool.false_eq_true, if_false, run_load, hv]

theorem load_agg (C : PCtx P tt J ℓ own n ρ kn get w) {t : TypeId} {zs : List Value} (hagg : ∀ w, (isAgg t).run P w = .ok true w) (hsz : ∀ w, (sizeOf t).run P w = .ok zs.length w) {i o : Nat} {cs : List SV} (h : cellsIn (nth own i) = some cs) (hle : o + zs.length ≤ cs.length) :
    (SV.agg ((cs.drop o).take zs.length)).wf n = true ∧ (Instr.loadAt t ((SV.loc i o).den ℓ)).run P w = .ok ((SV.agg ((cs.drop o).take zs.length)).den ℓ) w := by
  obtain ⟨hw, b, hb, hc⟩ := C.cells h
  refine ⟨by simp only [SV.wf]; exact wfL_take (wfL_drop hw _) _, ?_⟩
  have hd : ℓ.getD i default = b := by simp [List.getD, hb]
  have hlen : (SV.denL ℓ ((cs.drop o).take zs.length)).length = zs.length := by rw [SV.denL_length, List.length_take, List.length_drop]; omega
  have hrun := run_loadCells_list (P := P) w ⟨b.block, b.off + o, none⟩ (SV.denL ℓ ((cs.drop o).take zs.length)) (fun j v hj => by
    have hj' : j < zs.length := by
      have := (List.getElem?_eq_some_iff.1 hj).1
      omega
    have he : (Addr.add ⟨b.block, b.off + o, none⟩ j) = ⟨b.block, b.off + (o + j), none⟩ := by
      unfold Addr.add; split
      · subst_vars; rfl
      · simp [Nat.add_assoc]
    rw [he]
    refine hc _ _ ?_
    rw [denL_get, List.getElem?_take, if_pos hj', List.getElem?_drop] at hj
    rw [denL_get]; exact hj)
  rw [hlen] at hrun
  simp only [SV.den, hd, Instr.loadAt, Instr.sureAddr, pure_bind, loadVar, Sem.run_bind, hagg, Result.andThen_ok, if_true, hsz, hrun, Sem.run_pure]

theorem pureLoad_sound (C : PCtx P tt J ℓ own n ρ kn get w) {t : TypeId} {x : Operand} {s : SV} (h : pureLoad tt own t (get [] x) = some s) :
    s.wf n = true ∧ (Instr.loadAt t (ρ x)).run P w = .ok (s.den ℓ) w := by
  unfold pureLoad at h
  split at h
  · rename_i i o hx
    have hρ := (C.get0 _ _ hx).2
    rw [hρ]
    split at h
    · rename_i cs hcs
      unfold loadFrom at h
      split at h
      · rename_i z hz
        exact load_cell C (C.hT t _ hz).agg hcs h
      · rename_i e k hz
        exact load_cell C (C.hT t _ hz).1.agg hcs h
      · rename_i hz
        exact load_cell C (C.hT t _ hz).1.agg hcs h
      · rename_i key elem hz
        exact load_cell C (C.hT t _ hz).1.agg hcs h
      · rename_i offs szs zs hz
        split at h
        · rename_i hle
          rw [forceL_eq] at h
          cases h
          obtain ⟨h1, h2, _⟩ := C.hT t _ hz
          exact load_agg C h1 h2 hcs (Nat.le_of_ble_eq_true hle)
        · cases h
      · rename_i m e k zs hz
        split at h
        · rename_i hle
          rw [forceL_eq] at h
          cases h
          obtain ⟨h1, h2, _⟩ := C.hT t _ hz
          exact load_agg C h1 h2 hcs (Nat.le_of_ble_eq_true hle)
        · cases h
      · cases h
    · cases h
  · cases h

theorem run_underlying' {t : TypeId} {d : TypeDesc} (h : P.underlying t = some d) : (underlying t).run P w = .ok d w := by
  simp [underlying, h]

theorem pureField_sound (C : PCtx P tt J ℓ own n ρ kn get w) {t : TypeId} {x : Operand} {f : Nat} {s : SV} (h : pureField f (get [] x) (tt t) = some s) :
    s.wf n = true ∧ (Instr.fieldAt t (ρ x) f).run P w = .ok (s.den ℓ) w := by
  unfold pureField at h
  split at h
  · rename_i i o offs szs zs hx ht
    obtain ⟨hw, hρ⟩ := C.get0 _ _ hx
    rw [hρ]
    split at h
    · rename_i d hd
      cases h
      refine ⟨hw, ?_⟩
      obtain ⟨_, _, _, fs, hu, hoffs, hszs, hf⟩ := C.hT t _ ht
      rw [nth_eq, ← hoffs] at hd
      simp only [List.getElem?_map, Option.map_eq_some_iff] at hd
      obtain ⟨fd, hfd, rfl⟩ := hd
      have hfd' : fs[f]? = some fd := by simpa using hfd
      have hlt : f < fs.size := by
        rcases Nat.lt_or_ge f fs.size with hh | hh
        · exact hh
        · simp [Array.getElem?_eq_none hh] at hfd'
      obtain ⟨k, hk⟩ : ∃ k, szs[f]? = some k := ⟨szs[f]'(by omega), by simp [List.getElem?_eq_getElem (show f < szs.length by omega)]⟩
      obtain ⟨hk0, hsz⟩ := hf f fd k hfd' hk
      simp only [Instr.fieldAt, Sem.run_bind, run_underlying' hu, Result.andThen_ok, hfd', SV.den, Instr.sureAddr, pure_bind, fieldPlace, hsz, if_neg hk0, Sem.run_pure]
      congr 3
      unfold Addr.add
      split
      · rename_i h0; simp [h0]
      · simp [Nat.add_assoc]
    · cases h
  · cases h

theorem intBin_sound {op : BinOp} {k : IntKind} {a b : Int} {v : Value} {t : TypeId} (h : intBin op k a b = some v) : (binOp op t (.int k a) (.int k b)).run P w = .ok v w := by
  cases op <;> simp only [intBin, Option.some.injEq, reduceCtorEq] at h <;> subst h <;> simp [binOp, Op.intArith, Op.intCmp]

theorem strBin_sound {op : BinOp} {a b : ByteArray} {v : Value} {t : TypeId} (h : strBin op a b = some v) : (binOp op t (.string a) (.string b)).run P w = .ok v w := by
  cases op <;> simp only [strBin, Option.some.injEq, reduceCtorEq] at h <;> subst h <;> simp [binOp, Op.stringOp]

theorem eqGuard_int {op : BinOp} {t : TypeId} {x y : Operand} {k k' : IntKind} {a b : Int} : (eqGuard op t x y (.int k a) (.int k' b)).run P w = .ok () w := by
  cases op <;> simp [eqGuard]
theorem eqGuard_str {op : BinOp} {t : TypeId} {x y : Operand} {a b : ByteArray} : (eqGuard op t x y (.string a) (.string b)).run P w = .ok () w := by
  cases op <;> simp [eqGuard]

theorem pureBin_sound (C : PCtx P tt J ℓ own n ρ kn get w) {op : BinOp} {t : TypeId} {x y : Operand} {s : SV} (h : pureBin op (get [] x) (get [] y) = some s) :
    s.wf n = true ∧ (do eqGuard op t x y (ρ x) (ρ y); binOp op t (ρ x) (ρ y) : Sem Value).run P w = .ok (s.den ℓ) w := by
  unfold pureBin at h
  split at h
  · rename_i k a k' b hx hy
    rw [(C.get0 _ _ hx).2, (C.get0 _ _ hy).2]
    split at h
    · rename_i hk
      have := kidx_inj hk
      subst this
      unfold liftV at h
      split at h
      · rename_i v hv
        cases h
        refine ⟨rfl, ?_⟩
        simp only [SV.den, Sem.run_bind, eqGuard_int, Result.andThen_ok, intBin_sound hv]
      · cases h
    · cases h
  · rename_i a b hx hy
    rw [(C.get0 _ _ hx).2, (C.get0 _ _ hy).2]
    unfold liftV at h
    split at h
    · rename_i v hv
      cases h
      refine ⟨rfl, ?_⟩
      simp only [SV.den, Sem.run_bind, eqGuard_str, Result.andThen_ok, strBin_sound hv]
    · cases h
  · cases h

theorem purePick_sound (C : PCtx P tt J ℓ own n ρ kn get w) {g : Nat} {a b : Operand} {s : SV} (h : purePick kn get g a b = some s) :
    s.wf n = true ∧ (do pure (if ← asBool (ρ (.tmp g)) then ρ a else ρ b) : Sem Value).run P w = .ok (s.den ℓ) w := by
  unfold purePick at h
  split at h
  · rename_i hk
    have := C.hkn g _ hk
    have h1 := C.get0 _ _ h
    rw [this]
    exact ⟨h1.1, by simp [asBool, h1.2]⟩
  · rename_i hk
    have := C.hkn g _ hk
    have h1 := C.get0 _ _ h
    rw [this]
    exact ⟨h1.1, by simp [asBool, h1.2]⟩
  · split at h
    · rename_i cb hc
      have hg : ρ (.tmp g) = .bool cb := (C.get0 _ _ hc).2
      split at h
      · split at h
        · rename_i bb hb
          cases h
          refine ⟨rfl, ?_⟩
          rw [hg, C.const]
          cases cb with
          | true => simp [asBool, SV.den]
          | false => simp [asBool, SV.den, (C.get1 _ _ _ _ hb hg).2]
        · cases h
      · split at h
        · split at h
          · rename_i ab ha
            cases h
            refine ⟨rfl, ?_⟩
            rw [hg, C.const]
            cases cb with
            | true => simp [asBool, SV.den, (C.get1 _ _ _ _ ha hg).2]
            | false => simp [asBool, SV.den]
          · cases h
        · split at h
          · rename_i ab bb ha hb
            cases h
            refine ⟨rfl, ?_⟩
            rw [hg]
            cases cb with
            | true => simp [asBool, SV.den, (C.get1 _ _ _ _ ha hg).2]
            | false => simp [asBool, SV.den, (C.get1 _ _ _ _ hb hg).2]
          · cases h
    · cases h

theorem pureUn_sound (C : PCtx P tt J ℓ own n ρ kn get w) {op : UnOp} {x : Operand} {s : SV} (h : pureUn op (get [] x) = some s) :
    s.wf n = true ∧ (Op.unary op (ρ x)).run P w = .ok (s.den ℓ) w := by
  unfold pureUn at h
  split at h
  · rename_i b hx
    rw [(C.get0 _ _ hx).2]
    cases h
    exact ⟨rfl, by simp [SV.den, Op.unary]⟩
  · rename_i k m hx
    rw [(C.get0 _ _ hx).2]
    cases h
    exact ⟨rfl, by simp [SV.den, Op.unary, Op.intArith]⟩
  · cases h

theorem getAll_sound (C : PCtx P tt J ℓ own n ρ kn get w) : ∀ (xs : List Operand) (l : List SV), getAll get xs = some l → SV.wfL n l = true ∧ xs.map ρ = SV.denL ℓ l
  | [], l, h => by simp only [getAll, Option.some.injEq] at h; subst h; exact ⟨rfl, rfl⟩
  | x :: xs, l, h => by
    simp only [getAll] at h
    split at h
    · rename_i s hs
      split at h
      · rename_i ss hss
        cases h
        have h1 := C.get0 _ _ hs
        have h2 := getAll_sound C xs ss hss
        exact ⟨by simp [SV.wfL, h1.1, h2.1], by simp [SV.denL, h1.2, h2.2]⟩
      · cases h
    · cases h

theorem pureFn_sound (C : PCtx P tt J ℓ own n ρ kn get w) {fn : Fn} {first caps : Array Operand} {s : SV} (h : pureFn fn (getAll get first.toList) (getAll get caps.toList) = some s) :
    s.wf n = true ∧ (Instr.makeFunc fn (first.map ρ) (caps.map ρ)).run P w = .ok (s.den ℓ) w := by
  unfold pureFn at h
  split at h
  · rename_i l l' h1 h2
    cases h
    have e1 := getAll_sound C _ _ h1
    have e2 := getAll_sound C _ _ h2
    refine ⟨by simp [SV.wf, e1.1, e2.1], ?_⟩
    have a1 : first.map ρ = (SV.denL ℓ l).toArray := by rw [← Array.toList_inj, Array.toList_map, e1.2]
    have a2 : caps.map ρ = (SV.denL ℓ l').toArray := by rw [← Array.toList_inj, Array.toList_map, e2.2]
    simp [Instr.makeFunc, SV.den, a1, a2]
  · cases h

theorem pureExt_sound (C : PCtx P tt J ℓ own n ρ kn get w) {i : Nat} {x : Operand} {s : SV} (h : pureExt i (get [] x) = some s) :
    s.wf n = true ∧ (Instr.extract (ρ x) i).run P w = .ok (s.den ℓ) w := by
  unfold pureExt at h
  split at h
  · rename_i xs hx
    obtain ⟨hw, hρ⟩ := C.get0 _ _ hx
    rw [hρ]
    simp only [SV.wf] at hw
    refine ⟨wfL_get hw h, ?_⟩
    have : (SV.denL ℓ xs)[i]? = some (s.den ℓ) := by rw [denL_get, ← nth_eq, h]; rfl
    simp [Instr.extract, SV.den, this]
  · cases h

theorem pureNil_sound (C : PCtx P tt J ℓ own n ρ kn get w) {x : Operand} {s : SV} {o : Oper} (ho : o.op = .nilCheck x) (h : pureNil (get [] x) = some s) :
    s.wf n = true ∧ (execOp ρ o).run P w = .ok (.value (s.den ℓ)) w := by
  unfold pureNil at h
  split at h
  · rename_i i off hx
    cases h
    obtain ⟨hw, hρ⟩ := C.get0 _ _ hx
    rw [SV.den] at hρ
    refine ⟨hw, ?_⟩
    unfold execOp
    rw [ho]
    simp only [hρ, SV.den, Sem.run_pure]
  · rename_i f first caps hx
    cases h
    obtain ⟨hw, hρ⟩ := C.get0 _ _ hx
    rw [SV.den] at hρ
    refine ⟨hw, ?_⟩
    unfold execOp
    rw [ho]
    simp only [hρ, SV.den, Sem.run_pure]
  · cases h

theorem pureLen_sound (hT : TTOK P tt) {s s' : SV} {t : TypeId} (h : pureLen (some s) (tt t) = some s') (ty : TypeId) :
    s'.wf n = true ∧ (Builtin.len_ #[t] ty #[s.den ℓ]).run P w = .ok (s'.den ℓ) w := by
  unfold pureLen at h
  split at h
  · rename_i x k a m c e kk hx ht
    cases hx
    cases h
    have hu := (hT t _ ht).2.1
    exact ⟨rfl, by simp [Builtin.len_, SV.den, run_underlying' hu, goInt]⟩
  · rename_i x k b hx ht
    cases hx
    cases h
    have hu := (hT t _ ht).2
    exact ⟨rfl, by simp [Builtin.len_, SV.den, run_underlying' hu, goInt]⟩
  · cases h

theorem pureCall_sound (C : PCtx P tt J ℓ own n ρ kn get w) {c : Call} {s : SV} {o : Oper} (ho : o.op = .call c) (h : pureCall tt get c = some s) :
    s.wf n = true ∧ (execOp ρ o).run P w = .ok (.value (s.den ℓ)) w := by
  unfold pureCall at h
  split at h
  · rename_i hc
    unfold pureLenOf at h
    split at h
    · rename_i x t hx ht
      cases hg : get [] x with
      | none => rw [hg] at h; simp [pureLen] at h
      | some sx =>
        rw [hg] at h
        obtain ⟨hw, hρ⟩ := C.get0 _ _ hg
        have ha : c.args = #[x] := by rw [← Array.toArray_toList (xs := c.args), hx]
        have ht' : c.argTypes = #[t] := by rw [← Array.toArray_toList (xs := c.argTypes), ht]
        have := pureLen_sound (n := n) (ℓ := ℓ) (w := w) C.hT h o.type
        refine ⟨this.1, ?_⟩
        unfold execOp
        rw [ho]
        simp only [resolve, hc, ha, ht', pure_bind, invoke, builtin]
        simp only [List.map_toArray, List.map_cons, List.map_nil, hρ, Sem.run_bind, this.2, Result.andThen_ok, Sem.run_pure]
    · cases h
  · cases h

/-- The parts of a struct literal: the model's 'fill' and ours agree. -/
theorem foldl_set_range : ∀ (xs : List Value) (cells : Array Value) (off : Nat), off + xs.length ≤ cells.size →
    (xs.toArray.zipIdx.foldl (fun cs (p : Value × Nat) => cs.setIfInBounds (off + p.2) p.1) cells) = (setRange cells.toList off xs).toArray := by
  have key : ∀ (xs : List Value) (cells : Array Value) (off j : Nat), off + j + xs.length ≤ cells.size →
      ((xs.zipIdx j).foldl (fun cs (p : Value × Nat) => cs.setIfInBounds (off + p.2) p.1) cells) = (setRange cells.toList (off + j) xs).toArray := by
    intro xs
    induction xs with
    | nil => intro cells off j _; simp [setRange]
    | cons x xs ih =>
      intro cells off j h
      simp only [List.length_cons] at h
      simp only [List.zipIdx_cons, List.foldl_cons]
      rw [ih _ _ _ (by simp; omega)]
      congr 1
      simp only [setRange, Array.toList_setIfInBounds, List.length_cons]
      apply List.ext_getElem?
      intro i
      simp only [List.getElem?_append, List.getElem?_take, List.length_take, List.getElem?_drop, List.length_set, List.getElem?_set, List.length_cons, Array.length_toList, List.getElem?_cons]
      have e1 : min (off + (j + 1)) cells.size = off + j + 1 := by omega
      have e2 : min (off + j) cells.size = off + j := by omega
      rw [e1, e2]
      by_cases h1 : i < off + j
      · have : i < off + (j + 1) := by omega
        have : ¬ (off + j = i) := by omega
        simp [*, show i < off + j + 1 by omega]
      · by_cases h2 : i = off + j
        · subst h2
          simp [show off + j < off + j + 1 by omega, show off + j < off + (j + 1) by omega, show off + j < cells.size by omega]
        · have h3 : ¬ i < off + j + 1 := by omega
          have h4 : ¬ i - (off + j) = 0 := by omega
          simp only [h1, h3, if_false]
          rw [show i - (off + j) - 1 = i - (off + j + 1) by omega]
          by_cases h5 : i - (off + j + 1) < xs.length
          · have : i - (off + j) < xs.length + 1 := by omega
            simp [h4, h5, this]
          · have : ¬ i - (off + j) < xs.length + 1 := by omega
            simp only [h4, h5, this, if_false]
            have e : ∀ q : Nat, off + (j + 1) + xs.length + q = off + j + (xs.length + 1) + q := by intro q; omega
            rw [show i - (off + j + 1) - xs.length = i - (off + j) - (xs.length + 1) by omega, e]
            have : ¬ off + j = off + j + (xs.length + 1) + (i - (off + j) - (xs.length + 1)) := by omega
            simp [this]
  intro xs cells off h
  have := key xs cells off 0 (by omega)
  simpa using this

theorem setRange_denL (ℓ : List Base) (cells xs : List SV) (off : Nat) : SV.denL ℓ (setRange cells off xs) = setRange (SV.denL ℓ cells) off (SV.denL ℓ xs) := by
  simp only [setRange, SV.denL_append, SV.denL_length]
  simp only [SV.denL_eq, List.map_take, List.map_drop]

theorem wfL_setRange {n : Nat} {cells xs : List SV} {off : Nat} (h : SV.wfL n cells = true) (h' : SV.wfL n xs = true) : SV.wfL n (setRange cells off xs) = true :=
  wfL_append (wfL_take h _) (wfL_append h' (wfL_drop h _))

theorem setRange_length {α : Type} (cells xs : List α) (off : Nat) (h : off + xs.length ≤ cells.length) : (setRange cells off xs).length = cells.length := by
  simp [setRange]; omega

theorem cells_den (ℓ : List Base) (s : SV) (h : ∀ cs, s = .v (.agg cs) → False) : (s.den ℓ).cells = (SV.denL ℓ (cellsOf s)).toArray := by
  cases s with
  | agg cs => simp [SV.den, Value.cells, cellsOf]
  | v x =>
    cases x with
    | agg cs => exact (h cs rfl).elim
    | _ => simp [SV.den, Value.cells, cellsOf, SV.denL]
  | _ => simp [SV.den, Value.cells, cellsOf, SV.denL]

theorem den_cells_of_plain (ℓ : List Base) {s : SV} (h : plainS s = true) : (s.den ℓ).cells = (SV.denL ℓ (cellsOf s)).toArray :=
  cells_den ℓ s (by rintro cs rfl; simp [plainS] at h)

theorem fillS_sound (C : PCtx P tt J ℓ own n ρ kn get w) {offs szs : List Nat} {fs : Array Field} (hoffs : fs.toList.map (·.offset) = offs) (hszs : szs.length = fs.size) (place : Nat → Option (Nat × Nat))
    (hplace : ∀ i off sz, offs[i]? = some off → szs[i]? = some sz → place i = some (off, sz)) :
    ∀ (parts : List (Nat × Operand)) (cells l : List SV), SV.wfL n cells = true → fillS offs szs cells get parts = some l →
      SV.wfL n l = true ∧ Instr.fill place (SV.denL ℓ cells).toArray (parts.map fun p => (p.1, ρ p.2)) = some (SV.denL ℓ l).toArray
  | [], cells, l, hw, h => by
    simp only [fillS, Option.some.injEq] at h
    subst h
    exact ⟨hw, rfl⟩
  | (i, x) :: rest, cells, l, hw, h => by
    simp only [fillS] at h
    split at h
    · rename_i off sz s ho hs hx
      split at h
      · rename_i hb
        simp only [Bool.and_eq_true] at hb
        obtain ⟨⟨hp, hb1⟩, hb2⟩ := hb
        have hb1 := Nat.eq_of_beq_eq_true hb1
        have hb2 := Nat.le_of_ble_eq_true hb2
        rw [forceL_eq] at h
        obtain ⟨hsw, hρ⟩ := C.get0 _ _ hx
        have hcw : SV.wfL n (cellsOf s) = true := by
          cases s <;> simp_all [cellsOf, SV.wfL, SV.wf]
        have ih := fillS_sound C hoffs hszs place hplace rest _ l (wfL_setRange hw hcw) h
        refine ⟨ih.1, ?_⟩
        simp only [List.map_cons, Instr.fill, hplace i off sz (by rw [← nth_eq]; exact ho) (by rw [← nth_eq]; exact hs), hρ]
        have hc : (s.den ℓ).cells = (SV.denL ℓ (cellsOf s)).toArray := den_cells_of_plain ℓ hp
        have hsize : (s.den ℓ).cells.size = sz := by rw [hc]; simp [SV.denL_length, hb1]
        have hlen : (SV.denL ℓ cells).toArray.size = cells.length := by simp [SV.denL_length]
        have hcond : ((decide ((s.den ℓ).cells.size ≠ sz)) || decide (off + (s.den ℓ).cells.size > (SV.denL ℓ cells).toArray.size)) = false := by
          rw [hsize, hlen]
          simp
          omega
        rw [if_neg (by rw [hcond]; simp)]
        have hf := foldl_set_range (SV.denL ℓ (cellsOf s)) (SV.denL ℓ cells).toArray off (by rw [hlen, SV.denL_length, hb1]; exact hb2)
        rw [hc]
        rw [hf]
        rw [← setRange_denL]
        exact ih.2
      · cases h
    · cases h

theorem denL_map_v (ℓ : List Base) : ∀ (zs : List Value), SV.denL ℓ (zs.map SV.v) = zs
  | [] => rfl
  | z :: zs => by simp [SV.denL, SV.den, denL_map_v ℓ zs]
theorem wfL_map_v (n : Nat) : ∀ (zs : List Value), SV.wfL n (zs.map SV.v) = true
  | [] => rfl
  | z :: zs => by simp [SV.wfL, SV.wf, wfL_map_v n zs]

theorem places_run : ∀ (l : List Field) (ss : List Nat), ss.length = l.length → (∀ (i : Nat) (f : Field) (m : Nat), l[i]? = some f → ss[i]? = some m → (sizeOf f.type).run P w = .ok m w) →
    (l.mapM fun f => (do pure (f.offset, ← sizeOf f.type) : Sem (Nat × Nat))).run P w = .ok ((l.map (·.offset)).zip ss) w
  | [], ss, hl, _ => by simp
  | f :: l, [], hl, _ => by simp at hl
  | f :: l, m :: ss, hl, h => by
    have h0 := h 0 f m rfl rfl
    have ih := places_run l ss (by simpa using hl) (fun i f' m' h1 h2 => h (i + 1) f' m' (by simpa using h1) (by simpa using h2))
    simp only [List.mapM_cons, Sem.run_bind, h0, Result.andThen_ok, Sem.run_pure, ih, List.map_cons, List.zip_cons_cons]

theorem pureBuild_sound (C : PCtx P tt J ℓ own n ρ kn get w) {t : TypeId} {parts : Array (Nat × Operand)} {s : SV} (h : pureBuild get parts (tt t) = some s) :
    s.wf n = true ∧ (Instr.build t (parts.map fun (i, x) => (i, ρ x))).run P w = .ok (s.den ℓ) w := by
  unfold pureBuild at h
  split at h
  · rename_i offs szs zs ht
    rw [forceL_eq] at h
    split at h
    · rename_i l hl
      cases h
      obtain ⟨_, _, hz, fs, hu, hoffs, hszs, hf⟩ := C.hT t _ ht
      have hplaces : (fs.mapM fun f => do pure (f.offset, ← sizeOf f.type) : Sem (Array (Nat × Nat))).run P w = .ok (offs.zip szs).toArray w := by
        rw [Array.mapM_eq_mapM_toList, Sem.run_map, places_run fs.toList szs (by simpa using hszs) (fun i f m h1 h2 => (hf i f m (by simpa using h1) h2).2 w), hoffs]
        rfl
      have hplace : ∀ (i off sz : Nat), offs[i]? = some off → szs[i]? = some sz → ((offs.zip szs).toArray[i]?) = some (off, sz) := by
        intro i off sz h1 h2
        simp [List.getElem?_zip_eq_some, h1, h2]
      have hfill := fillS_sound C hoffs hszs _ hplace parts.toList (zs.map SV.v) l (wfL_map_v n zs) hl
      rw [denL_map_v] at hfill
      refine ⟨by simpa only [SV.wf] using hfill.1, ?_⟩
      unfold Instr.build
      simp only [Sem.run_bind, hz, Result.andThen_ok, run_underlying' hu, hplaces, Value.cells]
      simp only [Array.toList_map]
      rw [hfill.2]
      simp only [Sem.run_pure, SV.den]
    · cases h
  · cases h

theorem stepPure_sound (C : PCtx P tt J ℓ own n ρ kn get w) (o : Oper) {s : SV} (h : stepPure tt own kn get o.op = some s) :
    s.wf n = true ∧ (execOp ρ o).run P w = .ok (.value (s.den ℓ)) w := by
  unfold stepPure at h
  split at h
  · rename_i x ho
    have := C.get0 _ _ h
    refine ⟨this.1, ?_⟩
    unfold execOp; rw [ho]; simp only [Sem.run_pure, this.2]
  · rename_i x ho
    have := C.get0 _ _ h
    refine ⟨this.1, ?_⟩
    unfold execOp; rw [ho]; simp only [Sem.run_pure, this.2]
  · rename_i g a b ho
    have := purePick_sound C h
    refine ⟨this.1, ?_⟩
    have h2 := this.2
    unfold execOp; rw [ho]
    simp only [Sem.run_bind, Sem.run_pure] at h2 ⊢
    generalize (asBool (ρ (.tmp g))).run P w = r at *
    cases r <;> simp only [Result.andThen_ok, Result.andThen_halt, Result.ok.injEq, reduceCtorEq] at h2 ⊢
    exact ⟨by rw [h2.1], h2.2⟩
  · rename_i x ho
    exact pureNil_sound C ho h
  · rename_i t x ho
    have := pureLoad_sound C h
    refine ⟨this.1, ?_⟩
    unfold execOp; rw [ho]; simp only [Sem.run_bind, this.2, Result.andThen_ok, Sem.run_pure]
  · rename_i t x f ho
    have := pureField_sound C h
    refine ⟨this.1, ?_⟩
    unfold execOp; rw [ho]; simp only [Sem.run_bind, this.2, Result.andThen_ok, Sem.run_pure]
  · rename_i op t x y ty ho
    have := pureBin_sound (t := t) C h
    refine ⟨this.1, ?_⟩
    have h2 := this.2
    unfold execOp; rw [ho]
    dsimp only
    rw [Sem.run_bind, h2]
    rfl
  · rename_i op t x ho
    have := pureUn_sound C h
    refine ⟨this.1, ?_⟩
    unfold execOp; rw [ho]; simp only [Sem.run_bind, this.2, Result.andThen_ok, Sem.run_pure]
  · rename_i fn first caps ho
    have := pureFn_sound C h
    refine ⟨this.1, ?_⟩
    unfold execOp; rw [ho]; simp only [Sem.run_bind, this.2, Result.andThen_ok, Sem.run_pure]
  · rename_i x i ho
    have := pureExt_sound C h
    refine ⟨this.1, ?_⟩
    unfold execOp; rw [ho]; simp only [Sem.run_bind, this.2, Result.andThen_ok, Sem.run_pure]
  · rename_i t parts ho
    have := pureBuild_sound C h
    refine ⟨this.1, ?_⟩
    unfold execOp; rw [ho]; simp only [Sem.run_bind, this.2, Result.andThen_ok, Sem.run_pure]
  · rename_i c ho
    exact pureCall_sound C ho h
  · cases h

end
end Go.Tr
