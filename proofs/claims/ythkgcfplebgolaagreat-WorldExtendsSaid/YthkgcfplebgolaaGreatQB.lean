/- Merged texts: FwG FwH FwI FwJ. Conditions stand in each rule. -/
import Derived.Test.YthkgcfplebgolaaGreatQA
import Derived.Deep.LoopGhost
import Derived.LoopNIn
import Derived.Laws.BitsLemmas
set_option linter.unusedSimpArgs false
set_option linter.unusedVariables false

namespace Go.Tr
section
open Go
section
variable {P : Program} {tt : Tab} {c : Cx} {ℓ : List Base} {kn al : Atoms} {gen : Gen} {env : Env} {S : St} {a : Act} {w : World}
set_option maxHeartbeats 1000000 in
theorem qkc {ro : Option Nat} {o : Oper} {K Kp : SV → St → Prop} {next : Act → World → Prop} {Q : Exit → Act → World → Prop} (hT : TTOK P tt) (hI : Inv c ℓ kn gen env S a w) (hal : Holds a al) (hK : Met c ℓ S a w o K next) (hKp : MetP c ℓ S a w Kp Q)
  (h : vcRun P tt kn (getter gen env al) o S K Kp) : o.wpIn (fen ro) 0 P a w next Q := by
 refine up_wp (fun cc hcc => ?_) ?_
 ·unfold vcRun at h
  simp only [hcc, stepPure] at h
 have C := hI.pctx (P := P) (tt := tt) (al := al) hT hal
 unfold vcRun at h
 split at h
 ·rename_i s hs
  have := qaq C o hs
  exact qbr this.2 (hK s ℓ S w (Stepped.refl hI.good) this.1 h)
 ·split at h
  ·rename_i t x ho
   split at h
   ·rename_i s hs
    split at h
    ·rename_i hp
     rw [qu, qan] at h
     have hx := C.get0 _ _ hs
     have hst := qgv hI t (cellsOf s) (qll hx.1)
     have hr := qlc (P := P) (a := a) (w := w) ho
     rw [hx.2, qaj ℓ hp] at hr
     refine qbr hr ?_
     have := hK (.loc S.own.length 0) _ _ _ hst (by simpa using loc_wf _) h
     simp only [SV.den] at this
     rw [← hI.good.len, qd7] at this
     exact this
    ·exact h.elim
   ·exact h.elim
  ·rename_i t ho
   split at h
   ·rename_i k hk
    rw [qu, qu, qan] at h
    obtain ⟨z, hz, hzc⟩ := zeros_run hT hk
    have hst := qgv hI t (k.zeros.map SV.v) (qg6 _ _)
    rw [qfg] at hst
    have hr := qip (P := P) (a := a) (w := w) ho (hz w)
    rw [hzc] at hr
    refine qbr hr ?_
    have := hK (.loc S.own.length 0) _ _ _ hst (by simpa using loc_wf _) h
    simp only [SV.den] at this
    rw [← hI.good.len, qd7] at this
    exact this
   ·exact h.elim
  ·rename_i t ad x ho
   split at h
   ·rename_i i off s hadr hs
    split at h
    ·rename_i T cs k hk ht
     split at h
     ·rename_i hb
      rw [qu, qu, qan] at h
      simp only [Bool.and_eq_true] at hb
      obtain ⟨⟨⟨hp, h1⟩, h2⟩, h3⟩ := hb
      have h2 := Nat.eq_of_beq_eq_true h2
      have h3 := Nat.le_of_ble_eq_true h3
      have hx := C.get0 _ _ hs
      have hy := C.get0 _ _ hadr
      have hk' : S.own[i]? = some (.cells T cs) := by rw [← qab]; exact hk
      have hwk := qak hI.good.wf hk'
      obtain ⟨b, hbl, hok⟩ := qlx hI.good hk'
      simp only [BlkOK] at hok
      have hlen : (qd ℓ cs).toArray.size = cs.length := by simp [qo]
      have hst := run_storeCells_at P b.block off T (qd ℓ (cellsOf s)) 0 (qd ℓ cs).toArray w hok.2 (by rw [hlen, qo]; omega) (qge h1)
      have hrow : (w.setRow b.block (qd ℓ (setRange cs off (cellsOf s))).toArray).heap[b.block]? = some (.cells (qd ℓ (setRange cs off (cellsOf s))).toArray T (0, 0)) := setRow_heap w _ _ _ _ _ hok.2
      have hsz : (w.setRow b.block (qd ℓ (setRange cs off (cellsOf s))).toArray).heap.size = w.heap.size := by simp [World.setRow]
      have hoth : ∀ y, y ≠ b.block → (w.setRow b.block (qd ℓ (setRange cs off (cellsOf s))).toArray).heap[y]? = w.heap[y]? := fun y hy => setRow_other w _ _ _ hy
      have hwf' : qr S.own.length (setRange cs off (cellsOf s)) = true := qh7 hwk (qll hx.1)
      have hgood := hI.good.update (k' := .cells T (setRange cs off (cellsOf s))) hk' hbl rfl rfl hwf' (Nat.le_of_eq hsz.symm) (fun y _ hy => hoth y hy) ⟨hok.1, hrow⟩
      have hbm : b.block ∈ mutS ℓ S := by simp only [mutS]; exact List.mem_append.2 (.inl (mem_mutL.2 ⟨i, b, _, hbl, hk', rfl, rfl⟩))
      have hmut : mutS ℓ ⟨S.own.set i (.cells T (setRange cs off (cellsOf s))), S.accs, S.reps⟩ = mutS ℓ S := by
       simp only [mutS]; rw [qgj (k' := Blk.cells T (setRange cs off (cellsOf s))) hk' rfl]
      have hstep : Stepped (c.Ja a) ℓ S w ℓ ⟨S.own.set i (.cells T (setRange cs off (cellsOf s))), S.accs, S.reps⟩ (w.setRow b.block (qd ℓ (setRange cs off (cellsOf s))).toArray) :=
       ⟨List.prefix_refl _, ⟨rfl, rfl, Nat.le_of_eq hsz.symm, fun y _ hy => hoth y (fun e => hy (e ▸ hbm))⟩, hgood, fun y hy => .inl (by rw [hmut] at hy; exact hy)⟩
      have hfin := hK undefS _ _ _ hstep (by rfl) h
      unfold upOp
      have hrun : (execOp a.eval o).run P w = .ok .skip (w.setRow b.block (qd ℓ (setRange cs off (cellsOf s))).toArray) := by
       unfold execOp
       rw [ho]
       have hd : ℓ.getD i default = b := by simp [List.getD, hbl]
       have hcells : ((a.eval x).cells.size ≠ k.zeros.length) = False := by
        rw [hx.2, qaj ℓ hp]; simp [qo, h2]
       have hst' : (storeCells ⟨b.block, off, none⟩ (a.eval x).cells.toList).run P w = .ok () (w.setRow b.block (qd ℓ (setRange cs off (cellsOf s))).toArray) := by
        rw [hx.2, qaj ℓ hp, hst, qgp]
        simp [setRange, List.append_assoc]
       simp only [Instr.storeAt, hy.2, SV.den, hd, hok.1, Nat.zero_add, Instr.sureAddr, pure_bind, storeVar, Sem.run_bind, size_run hT ht, Result.andThen_ok, hcells, if_false, hst', Sem.run_pure]
      rw [hrun]
      exact hfin
     ·exact h.elim
    ·exact h.elim
   ·rename_i sx sy _ hx hy
    have hx' := C.get0 _ _ hx
    have hy' := C.get0 _ _ hy
    refine qfe hI ?_ hK h
    unfold execOp; rw [ho]; simp only [hx'.2, hy'.2]
   ·exact h.elim
  ·rename_i cl ho
   split at h
   ·rename_i f hc
    split at h
    ·rename_i F args hF hargs
     have hF' := C.get0 _ _ hF
     have ha' := qw C _ _ hargs
     refine ql6 (cl := .val F) (args := args) hI ?_ hK hKp h
     unfold execOp
     rw [ho]
     simp only [resolve, hc, Cal.sem, hF'.2, qdc ha'.2]
    ·exact h.elim
   ·rename_i r m hc
    split at h
    ·rename_i F args hF hargs
     have hF' := C.get0 _ _ hF
     have ha' := qw C _ _ hargs
     refine ql6 (cl := .meth F m) (args := args) hI ?_ hK hKp h
     unfold execOp
     rw [ho]
     simp only [resolve, hc, Cal.sem, hF'.2, qdc ha'.2, pure_bind]
    ·exact h.elim
   ·rename_i hc
    split at h
    ·rename_i args hargs
     have ha' := qw C _ _ hargs
     refine qat hI ?_ hK h
     unfold execOp
     rw [ho]
     simp only [resolve, hc, pure_bind, invoke, builtin, qdc ha'.2]
    ·exact h.elim
   ·rename_i hc
    split at h
    ·rename_i args hargs
     have ha' := qw C _ _ hargs
     refine qas hI ?_ hK h
     unfold execOp
     rw [ho]
     simp only [resolve, hc, pure_bind, invoke, builtin, qdc ha'.2]
    ·exact h.elim
   ·rename_i hc
    split at h
    ·rename_i args hargs
     have ha' := qw C _ _ hargs
     refine qas hI ?_ hK h
     unfold execOp
     rw [ho]
     simp only [resolve, hc, pure_bind, invoke, builtin, qdc ha'.2]
    ·exact h.elim
   ·rename_i hc
    split at h
    ·rename_i args hargs
     have ha' := qw C _ _ hargs
     refine qat hI ?_ hK h
     unfold execOp
     rw [ho]
     simp only [resolve, hc, pure_bind, invoke, builtin, qdc ha'.2]
    ·exact h.elim
   ·rename_i hc
    split at h
    ·rename_i args hargs
     have ha' := qw C _ _ hargs
     refine qas hI ?_ hK h
     unfold execOp
     rw [ho]
     simp only [resolve, hc, pure_bind, invoke, builtin, qdc ha'.2]
    ·exact h.elim
   ·rename_i hc
    split at h
    ·rename_i args hargs
     have ha' := qw C _ _ hargs
     refine qat hI ?_ hK h
     unfold execOp
     rw [ho]
     simp only [resolve, hc, pure_bind, invoke, builtin, qdc ha'.2]
    ·exact h.elim
   ·rename_i hc
    split at h
    ·rename_i args hargs
     have ha' := qw C _ _ hargs
     refine qat hI ?_ hK h
     unfold execOp
     rw [ho]
     simp only [resolve, hc, pure_bind, invoke, builtin, qdc ha'.2]
    ·exact h.elim
   ·rename_i hc
    split at h
    ·rename_i args hargs
     have ha' := qw C _ _ hargs
     refine qat hI ?_ hK h
     unfold execOp
     rw [ho]
     simp only [resolve, hc, pure_bind, invoke, builtin, qdc ha'.2]
    ·exact h.elim
   ·exact h.elim
  ·rename_i t x i ho
   split at h
   ·rename_i sx sy hx hy
    have hx' := C.get0 _ _ hx
    have hy' := C.get0 _ _ hy
    refine qas hI ?_ hK h
    unfold execOp; rw [ho]; simp only [hx'.2, hy'.2]
   ·exact h.elim
  ·rename_i t x i ho
   split at h
   ·rename_i sx sy hx hy
    have hx' := C.get0 _ _ hx
    have hy' := C.get0 _ _ hy
    refine qas hI ?_ hK h
    unfold execOp; rw [ho]; simp only [hx'.2, hy'.2]
   ·exact h.elim
  ·rename_i t x f ho
   split at h
   ·rename_i sx hx
    have hx' := C.get0 _ _ hx
    refine qas hI ?_ hK h
    unfold execOp; rw [ho]; simp only [hx'.2]
   ·exact h.elim
  ·rename_i t x f ho
   split at h
   ·rename_i sx hx
    have hx' := C.get0 _ _ hx
    refine qas hI ?_ hK h
    unfold execOp; rw [ho]; simp only [hx'.2]
   ·exact h.elim
  ·rename_i t x ho
   split at h
   ·rename_i sx hx
    have hx' := C.get0 _ _ hx
    refine qat hI ?_ hK h
    unfold execOp; rw [ho]; simp only [hx'.2]
   ·exact h.elim
  ·rename_i t x lo hi mx ho
   split at h
   ·rename_i sx sl sh sm hx hl hh hm
    have hx' := C.get0 _ _ hx
    have hl' := qa9 (C := C) hl
    have hh' := qa9 (C := C) hh
    have hm' := qa9 (C := C) hm
    refine qas hI ?_ hK h
    unfold execOp; rw [ho]; simp only [hx'.2, hl', hh', hm']
   ·exact h.elim
  ·rename_i t len parts ho
   split at h
   ·rename_i l hl
    have hl' := qcj (C := C) _ _ hl
    have hp : (parts.map fun (i, x) => (i, a.eval x)) = (denParts ℓ l).toArray := by
     rw [← Array.toList_inj, Array.toList_map, hl']
    refine qat hI ?_ hK h
    unfold execOp; rw [ho]; simp only [hp]
   ·exact h.elim
  ·rename_i t l c ho
   split at h
   ·rename_i sx sy hx hy
    have hx' := C.get0 _ _ hx
    have hy' := C.get0 _ _ hy
    refine qat hI ?_ hK h
    unfold execOp; rw [ho]; simp only [hx'.2, hy'.2]
   ·exact h.elim
  ·rename_i t r ho
   split at h
   ·rename_i sr hr
    have hr' := qa9 (C := C) hr
    refine qat hI ?_ hK h
    unfold execOp; rw [ho]; simp only [hr']
   ·exact h.elim
  ·rename_i t m k x ho
   split at h
   ·rename_i sx sy sz hx hy hz
    have hx' := C.get0 _ _ hx
    have hy' := C.get0 _ _ hy
    have hz' := C.get0 _ _ hz
    refine qfe hI ?_ hK h
    unfold execOp; rw [ho]; simp only [hx'.2, hy'.2, hz'.2]
   ·exact h.elim
  ·rename_i t m k x ho
   split at h
   ·rename_i sx sy sz hx hy hz
    have hx' := C.get0 _ _ hx
    have hy' := C.get0 _ _ hy
    have hz' := C.get0 _ _ hz
    refine qfe hI ?_ hK h
    unfold execOp; rw [ho]; simp only [hx'.2, hy'.2, hz'.2]
   ·exact h.elim
  ·rename_i t x ix ok ho
   split at h
   ·rename_i sx sy hx hy
    have hx' := C.get0 _ _ hx
    have hy' := C.get0 _ _ hy
    refine qat hI ?_ hK h
    unfold execOp; rw [ho]; simp only [hx'.2, hy'.2]
   ·exact h.elim
  ·rename_i t m k ho
   split at h
   ·rename_i sx sy hx hy
    have hx' := C.get0 _ _ hx
    have hy' := C.get0 _ _ hy
    refine qat hI ?_ hK h
    unfold execOp; rw [ho]; simp only [hx'.2, hy'.2]
   ·exact h.elim
  ·rename_i t m k x ho
   split at h
   ·rename_i sx sy sz hx hy hz
    have hx' := C.get0 _ _ hx
    have hy' := C.get0 _ _ hy
    have hz' := C.get0 _ _ hz
    refine qfe hI ?_ hK h
    unfold execOp; rw [ho]; simp only [hx'.2, hy'.2, hz'.2]
   ·exact h.elim
  ·rename_i t x ho
   split at h
   ·rename_i sx hx
    have hx' := C.get0 _ _ hx
    refine qat hI ?_ hK h
    unfold execOp; rw [ho]; simp only [hx'.2]
   ·exact h.elim
  ·rename_i it isStr ho
   split at h
   ·rename_i sx hx
    have hx' := C.get0 _ _ hx
    refine qat hI ?_ hK h
    unfold execOp; rw [ho]; simp only [hx'.2]
   ·exact h.elim
  ·rename_i it ho
   split at h
   ·rename_i sx hx
    have hx' := C.get0 _ _ hx
    refine qat hI ?_ hK h
    unfold execOp; rw [ho]; simp only [hx'.2]
   ·exact h.elim
  ·rename_i op t x y ty ho
   split at h
   ·rename_i sx sy hx hy
    have hx' := C.get0 _ _ hx
    have hy' := C.get0 _ _ hy
    refine qas hI ?_ hK h
    unfold execOp; rw [ho]; simp only [hx'.2, hy'.2]
   ·exact h.elim
  ·rename_i op t x ho
   split at h
   ·rename_i sx hx
    have hx' := C.get0 _ _ hx
    refine qas hI ?_ hK h
    unfold execOp; rw [ho]; simp only [hx'.2]
   ·exact h.elim
  ·rename_i src dst x ho
   split at h
   ·rename_i sx hx
    have hx' := C.get0 _ _ hx
    refine qat hI ?_ hK h
    unfold execOp; rw [ho]; simp only [hx'.2]
   ·exact h.elim
  ·rename_i t x ho
   split at h
   ·rename_i sx hx
    have hx' := C.get0 _ _ hx
    refine qas hI ?_ hK h
    unfold execOp; rw [ho]; simp only [hx'.2]
   ·exact h.elim
  ·rename_i x t ag ok ho
   split at h
   ·rename_i sx hx
    have hx' := C.get0 _ _ hx
    refine qas hI ?_ hK h
    unfold execOp; rw [ho]; simp only [hx'.2]
   ·exact h.elim
  ·rename_i t parts ho
   split at h
   ·rename_i l hl
    have hl' := qcj (C := C) _ _ hl
    have hp : (parts.map fun (i, x) => (i, a.eval x)) = (denParts ℓ l).toArray := by
     rw [← Array.toList_inj, Array.toList_map, hl']
    refine qas hI ?_ hK h
    unfold execOp; rw [ho]; simp only [hp]
   ·exact h.elim
  ·rename_i x ho
   split at h
   ·rename_i t s hx
    have hx' := C.get0 _ _ hx
    unfold upOp
    have hr : (execOp a.eval o).run P w = .halt (.panic ((SV.ifc t s).den ℓ)) w := by
     unfold execOp; rw [ho]; simp [hx'.2, SV.den, Instr.panic]
    rw [hr]
    exact hKp (.ifc t s) ℓ S w (Stepped.refl hI.good) hx'.1 h
   ·exact h.elim
  ·exact h.elim
end
end

section
open Go
section
variable {P : Program} {tt : Tab} {c : Cx} {ℓ : List Base} {kn al : Atoms} {gen : Gen} {env : Env} {S : St} {a : Act} {w : World}
theorem qes {a : Act} {d : Nat} {v : Value} (h : d < a.tmps.size) : (a.put (some d) v).tmps.getD d undef = v := by
 simp [Act.put, Array.getD, h]
theorem qal {a : Act} {d t : Nat} {v : Value} (h : t ≠ d) : (a.put (some d) v).tmps.getD t undef = a.tmps.getD t undef := by
 simp only [Act.put, Array.getD_eq_getD_getElem?]
 rw [Array.getElem?_setIfInBounds_ne (Ne.symm h)]
theorem qf3 {d : Nat} : ∀ {gen : Gen}, freshG d gen = true → ∀ t s tags, gfind gen t = some (s, tags) → t ≠ d ∧ ∀ p ∈ tags, p.1 ≠ d
 | [], _, t, s, tags, h => by simp [gfind] at h
 | (n, s0, tags0) :: r, hf, t, s, tags, h => by
  simp only [freshG] at hf
  split at hf
  ·cases hf
  ·rename_i hb
   simp only [Bool.or_eq_false_iff] at hb
   simp only [gfind] at h
   split at h
   ·rename_i hn
    have hn := Nat.eq_of_beq_eq_true hn
    cases h
    subst hn
    refine ⟨fun e => ?_, fun p hp e => ?_⟩
    ·subst e; simp at hb
    ·have := hb.2
     rw [List.any_eq_false] at this
     have := this p hp
     subst e
     simp at this
   ·exact qf3 hf t s tags h
theorem qd6 {d : Nat} : ∀ {kn : Atoms}, freshK d kn = true → ∀ p ∈ kn, p.1 ≠ d
 | [], _, p, hp => by simp at hp
 | (n, b) :: r, hf, p, hp => by
  simp only [freshK] at hf
  split at hf
  ·cases hf
  ·rename_i hb
   rcases List.mem_cons.1 hp with h1 | h1
   ·subst h1; intro e; subst e; simp at hb
   ·exact qd6 hf p h1
theorem qeq {a : Act} {d : Nat} {v : Value} {l : Atoms} (h : ∀ p ∈ l, p.1 ≠ d) : Holds (a.put (some d) v) l ↔ Holds a l := by
 constructor
 ·intro hh p hp; have := hh p hp; rwa [qal (h p hp)] at this
 ·intro hh p hp; rw [qal (h p hp)]; exact hh p hp
theorem qm5 (a : Act) (d : Option Nat) (v : Value) : (a.put d v).tmps.size = a.tmps.size := by cases d <;> simp [Act.put]
theorem put_defers (a : Act) (d : Option Nat) (v : Value) : (a.put d v).defers = a.defers := by cases d <;> simp [Act.put]
theorem Ja_put (a : Act) (d : Option Nat) (v : Value) : c.Ja (a.put d v) = c.Ja a := by unfold Cx.Ja; rw [put_defers]
theorem EnvOK.grow {n n' : Nat} {ℓ' : List Base} (h : EnvOK ℓ n env a) (hn : n ≤ n') (hℓ : ∀ i, i < n → ℓ'.getD i default = ℓ.getD i default) : EnvOK ℓ' n' env a := fun t s hs => by
 have := h t s hs
 exact ⟨SV.wf_mono hn s this.1, by rw [qy hℓ s this.1]; exact this.2⟩
theorem GenOK.grow {n n' : Nat} {ℓ' : List Base} (h : GenOK ℓ n gen a) (hn : n ≤ n') (hℓ : ∀ i, i < n → ℓ'.getD i default = ℓ.getD i default) : GenOK ℓ' n' gen a := fun t s tags hs => by
 have := h t s tags hs
 exact ⟨fun hh => ⟨SV.wf_mono hn s (this.1 hh).1, by rw [qy hℓ s (this.1 hh).1]; exact (this.1 hh).2⟩, this.2⟩
theorem Stepped.own_le {J : Nat → Prop} {ℓ' : List Base} {S' : St} {w' : World} (h : Stepped J ℓ S w ℓ' S' w') (hl : ℓ.length = S.own.length) : S.own.length ≤ S'.own.length := by
 rw [← hl, ← h.good.len]; exact h.pre.length_le
theorem Marks.ext {w0 : World} {base ds : List Deferred} {w w' : World} {m : List Nat} (h : Marks w0 base ds w) (hx : Ext m w w') (hm : ∀ r ∈ marksOf ds, r ∉ m) : Marks w0 base ds w' :=
 ⟨h.eq, h.nodup, fun r hr => ⟨(h.blk r hr).1, (hx.block r (qag (h.blk r hr).2) (hm r hr)).trans (h.blk r hr).2⟩⟩
theorem Inv.marks_mut (hI : Inv c ℓ kn gen env S a w) : ∀ r ∈ marksOf a.defers, r ∉ mutS ℓ S := fun r hr hm => (hI.good.memJ r hm).2 hr
theorem Inv.step (hI : Inv c ℓ kn gen env S a w) {ℓ' : List Base} {S' : St} {w' : World} (hs : Stepped (c.Ja a) ℓ S w ℓ' S' w') : Inv c ℓ' kn gen env S' a w' := by
 have hle := hs.own_le hI.good.len
 have hℓ : ∀ i, i < S.own.length → ℓ'.getD i default = ℓ.getD i default := fun i hi => qau hs.pre (by rw [hI.good.len]; exact hi)
 refine ⟨hI.size, hI.defers.ext hs.ext hI.marks_mut, hI.env.grow hle hℓ, hI.gen.grow hle hℓ, hI.kn, hs.good, hI.fresh0, hI.pre.trans hs.pre, hI.ext.then hs.ext hI.fresh, ?_⟩
 intro b hb
 rcases hs.fresh b hb with h1 | h1
 ·exact hI.fresh b h1
 ·exact .inr (Nat.le_trans hI.ext.size h1)
theorem qa6 {N : Nat} {dst : Option Nat} {s : SV} {K : Env → Prop} (hN : c.N = N) (hz : ∀ d, dst = some d → d ∉ c.fz) (hI : Inv c ℓ kn gen env S a w) (hs : s.wf S.own.length = true) (h : putK N dst s kn gen env K) :
  ∃ env', K env' ∧ Inv c ℓ kn gen env' S (a.put dst (s.den ℓ)) w := by
 unfold putK at h
 split at h
 ·refine ⟨env, h, ?_⟩
  exact hI
 ·rename_i d
  split at h
  ·rename_i hb
   simp only [Bool.and_eq_true] at hb
   obtain ⟨⟨h1, h2⟩, h3⟩ := hb
   have h1 := blt_true.1 h1
   have hlt : d < a.tmps.size := by rw [hI.size.1, hN]; exact h1
   refine ⟨_, h, ?_⟩
   refine ⟨⟨by rw [qm5]; exact hI.size.1, fun t ht => by
    have hne : t ≠ d := fun e => by subst e; exact hz _ rfl ht
    rw [qal hne]; exact hI.size.2.1 t ht, by rw [put_defers]; exact hI.size.2.2⟩, by rw [put_defers]; exact hI.defers, ?_, ?_, ?_, by rw [Ja_put]; exact hI.good, hI.fresh0, hI.pre, hI.ext, hI.fresh⟩
   ·intro t s' hs'
    simp only [find] at hs'
    split at hs'
    ·rename_i hn
     have hn := Nat.eq_of_beq_eq_true hn
     cases hs'
     subst hn
     exact ⟨hs, qes hlt⟩
    ·rename_i hn
     have hne : t ≠ d := fun e => by subst e; simp at hn
     rw [qal hne]
     exact hI.env t s' hs'
   ·intro t s' tags hs'
    obtain ⟨hne, htags⟩ := qf3 h2 t s' tags hs'
    have := hI.gen t s' tags hs'
    rw [qal hne, qeq htags]
    exact this
   ·exact (qeq (qd6 h3)).2 hI.kn
  ·exact h.elim
theorem qfj {N : Nat} {dst : Option Nat} {s : SV} {tags : Atoms} {K : Gen → Prop} {v : Value} (hN : c.N = N) (hz : ∀ d, dst = some d → d ∉ c.fz) (hI : Inv c ℓ kn gen env S a w) (hv : Holds a tags → s.wf S.own.length = true ∧ v = s.den ℓ) (hv' : ¬ Holds a tags → v = undef) (h : putG N dst s tags kn gen env K) :
  ∃ gen', K gen' ∧ Inv c ℓ kn gen' env S (a.put dst v) w := by
 unfold putG at h
 split at h
 ·exact ⟨gen, h, hI⟩
 ·rename_i d
  split at h
  ·rename_i hb
   simp only [Bool.and_eq_true] at hb
   obtain ⟨⟨h1, h2⟩, h3, h4⟩ := hb
   have h1 := blt_true.1 h1
   have hlt : d < a.tmps.size := by rw [hI.size.1, hN]; exact h1
   split at h
   ·rename_i hnone
    refine ⟨_, h, ?_⟩
    refine ⟨⟨by rw [qm5]; exact hI.size.1, fun t ht => by
    have hne : t ≠ d := fun e => by subst e; exact hz _ rfl ht
    rw [qal hne]; exact hI.size.2.1 t ht, by rw [put_defers]; exact hI.size.2.2⟩, by rw [put_defers]; exact hI.defers, ?_, ?_, ?_, by rw [Ja_put]; exact hI.good, hI.fresh0, hI.pre, hI.ext, hI.fresh⟩
    ·intro t s' hs'
     have hne : t ≠ d := fun e => by subst e; rw [hnone] at hs'; cases hs'
     rw [qal hne]
     exact hI.env t s' hs'
    ·intro t s' tags' hs'
     simp only [gfind] at hs'
     split at hs'
     ·rename_i hn
      have hn := Nat.eq_of_beq_eq_true hn
      simp only [Option.some.injEq, Prod.mk.injEq] at hs'
      obtain ⟨rfl, rfl⟩ := hs'
      subst hn
      rw [qes hlt, qeq (qd6 h4)]
      exact ⟨hv, hv'⟩
     ·obtain ⟨hne, htags⟩ := qf3 h2 t s' tags' hs'
      have := hI.gen t s' tags' hs'
      rw [qal hne, qeq htags]
      exact this
    ·exact (qeq (qd6 h3)).2 hI.kn
   ·exact h.elim
  ·exact h.elim
theorem qbu (hI : Inv c ℓ kn gen env S a w) {g : Nat} {s : SV} {tags : Atoms} (h : gfindE gen env g = some (s, tags)) : (Holds a tags → a.tmps.getD g undef = s.den ℓ) ∧ (¬ Holds a tags → a.tmps.getD g undef = undef) := by
 unfold gfindE at h
 split at h
 ·rename_i r hr
  cases h
  exact ⟨fun hh => ((hI.gen _ _ _ hr).1 hh).2, (hI.gen _ _ _ hr).2⟩
 ·split at h
  ·rename_i s' hs'
   simp only [Option.some.injEq, Prod.mk.injEq] at h
   obtain ⟨rfl, rfl⟩ := h
   exact ⟨fun _ => (hI.env _ _ hs').2, fun hn => (hn (by simp [Holds])).elim⟩
  ·cases h
theorem qhk {ops : Array Oper} {j g : Nat} (hg : guardSlot ops j = some g) : yielded ops a.tmps j = match a.tmps.getD g undef with
  | .bool b => some b
  | _ => none := by
 unfold guardSlot at hg
 split at hg
 ·rename_i o ho
  rw [qab] at ho
  have ho' : ops[j]? = some o := by simpa using ho
  simp only [yielded, ho', Option.bind_some, hg, Array.getD_eq_getD_getElem?]
  cases h : a.tmps[g]? with
  | none => simp [undef]
  | some v => cases v <;> simp
 ·cases hg
theorem Inv.noEnv (hI : Inv c ℓ kn gen env S a w) : Inv c ℓ [] [] [] S a w :=
 ⟨hI.size, hI.defers, fun t s h => by simp [find] at h, fun t s tags h => by simp [gfind] at h, by simp [Holds], hI.good, hI.fresh0, hI.pre, hI.ext, hI.fresh⟩
def OpsPost (c : Cx) (K : Env → St → Prop) (Kp : SV → St → Prop) (Q : Exit → Act → World → Prop) : Prop :=
 (∀ ℓ kn gen env S a w, Inv c ℓ kn gen env S a w → K env S → Q .normal a w) ∧
 (∀ ℓ S a w v, Inv c ℓ [] [] [] S a w → v.wf S.own.length = true → Kp v S → Q (.panic [{ v := v.den ℓ, recovered := false }]) a w)
theorem qd2 {ro : Option Nat} {ops : Array Oper} {Q : Exit → Act → World → Prop} {i : Nat} {rest : List Nat} {o : Oper} (ho : ops[i]? = some o) (h : if Region.wanted o (yielded ops a.tmps) then o.wpIn (fen ro) 0 P a w (wpOpsIn (fen ro) 0 P ops Q rest) Q else wpOpsIn (fen ro) 0 P ops Q rest (a.put o.dst undef) w) :
  wpOpsIn (fen ro) 0 P ops Q (i :: rest) a w := by
 simp only [wpOpsIn, ho]
 split
 ·rename_i hw; rw [if_pos hw] at h; exact h
 ·rename_i hw; rw [if_neg hw] at h; exact ⟨fun _ _ => trivial, h⟩
theorem qea {A B : Atoms → Prop} (hI : Inv c ℓ kn gen env S a w) : ∀ (l kn' : Atoms), Holds a kn' → tagsK gen env A B l kn' → (∃ kn2, Holds a kn2 ∧ Holds a l ∧ A kn2) ∨ (∃ kn2, Holds a kn2 ∧ ¬ Holds a l ∧ B kn2)
 | [], kn', hk, h => .inl ⟨kn', hk, by simp [Holds], h⟩
 | (g, want) :: r, kn', hk, h => by
  simp only [tagsK_cons, tagsOne] at h
  split at h
  ·rename_i b hb
   have hgb := hk _ (qcb hb)
   simp only at hgb
   split at h
   ·rename_i hbw
    have := qi1 hbw
    subst this
    rcases qea hI r kn' hk h with ⟨kn2, h1, h2, h3⟩ | ⟨kn2, h1, h2, h3⟩
    ·exact .inl ⟨kn2, h1, fun p hp => by rcases List.mem_cons.1 hp with e | e; (subst e; exact hgb); exact h2 p e, h3⟩
    ·exact .inr ⟨kn2, h1, fun hh => h2 (fun p hp => hh p (List.mem_cons_of_mem _ hp)), h3⟩
   ·rename_i hbw
    have := beqB_ne hbw
    subst this
    refine .inr ⟨kn', hk, fun hh => ?_, h⟩
    have := hh (g, want) (by simp)
    rw [hgb] at this
    cases want <;> simp at this
  ·split at h
   ·rename_i b tg hgf
    split at h
    ·rename_i hs
     have hge := (qbu hI hgf).1 (qdu hs hk)
     simp only [SV.den] at hge
     by_cases hbw : b = want
     ·subst hbw
      have hk2 : Holds a ((g, b) :: kn') := fun p hp => by rcases List.mem_cons.1 hp with e | e; (subst e; exact hge); exact hk p e
      rcases qea hI r _ hk2 (h.t rfl) with ⟨kn2, h1, h2, h3⟩ | ⟨kn2, h1, h2, h3⟩
      ·exact .inl ⟨kn2, h1, fun p hp => by rcases List.mem_cons.1 hp with e | e; (subst e; exact hge); exact h2 p e, h3⟩
      ·exact .inr ⟨kn2, h1, fun hh => h2 (fun p hp => hh p (List.mem_cons_of_mem _ hp)), h3⟩
     ·have hb2 : b = !want := by cases b <;> cases want <;> simp_all
      refine .inr ⟨_, fun p hp => ?_, fun hh => ?_, h.f hb2⟩
      ·rcases List.mem_cons.1 hp with e | e
       ·subst e; simp only; rw [hge, hb2]; cases want <;> rfl
       ·exact hk p e
      ·have := hh (g, want) (by simp)
       rw [hge] at this
       simp only [Value.bool.injEq] at this
       exact hbw this
    ·exact h.elim
   ·exact h.elim
theorem qnc {ro : Option Nat} {N : Nat} (hN : c.N = N) (hT : TTOK P tt) {ops : Array Oper} {K : Env → St → Prop} {Kp : SV → St → Prop} {Q : Exit → Act → World → Prop} (hQ : OpsPost c K Kp Q) (hz : ∀ o ∈ ops.toList, ∀ d, o.dst = some d → d ∉ c.fz) :
  ∀ (rest : List Oper) (i : Nat) (tl : List Oper), ops.toList.drop i = rest ++ tl → ∀ ℓ kn gen env S a w, Inv c ℓ kn gen env S a w → vcOps P tt N ops rest kn gen env S K Kp → wpOpsIn (fen ro) 0 P ops Q (List.range' i rest.length) a w := by
 intro rest
 induction rest with
 | nil =>
  intro i _ _ ℓ kn gen env S a w hI h
  simp only [List.length_nil, List.range'_zero, wpOpsIn]
  exact hQ.1 _ _ _ _ _ _ _ hI h
 | cons o rest ih =>
  intro i tl hi ℓ kn gen env S a w hI h
  have ho : ops[i]? = some o := by
   have : (ops.toList.drop i)[0]? = some o := by rw [hi]; rfl
   simpa using this
  have hom : o ∈ ops.toList := List.mem_of_getElem? (i := i) (by simpa using ho)
  have hi' : ops.toList.drop (i + 1) = rest ++ tl := by
   have := congrArg List.tail hi
   simpa using this
  have next := ih (i + 1) tl hi'
  simp only [List.length_cons, List.range'_succ]
  apply qd2 ho
  simp only [vcOps_cons, vcOp] at h
  -- an operation that is carried out
  have run : ∀ kn', Holds a kn' → vcRun P tt kn' (getter gen env kn') o S (fun s S' => putK N o.dst s kn' gen env (fun env' => vcOps P tt N ops rest kn' gen env' S' K Kp)) Kp → o.wpIn (fen ro) 0 P a w (wpOpsIn (fen ro) 0 P ops Q (List.range' (i + 1) rest.length)) Q := by
   intro kn' hk' hr
   have hI' : Inv c ℓ kn' gen env S a w := ⟨hI.size, hI.defers, hI.env, hI.gen, hk', hI.good, hI.fresh0, hI.pre, hI.ext, hI.fresh⟩
   refine qkc hT hI' hk' ?_ ?_ hr
   ·intro r ℓ' S' w' hs hwf hk
    obtain ⟨env', hk2, hI2⟩ := qa6 hN (hz o hom) (hI'.step hs) hwf hk
    exact next _ _ _ _ _ _ _ hI2 hk2
   ·intro v ℓ' S' w' hs hwf hk
    exact hQ.2 _ _ _ _ _ (hI'.step hs).noEnv hwf hk
  have skip : ∀ kn', Holds a kn' → putK N o.dst undefS kn' gen env (fun env' => vcOps P tt N ops rest kn' gen env' S K Kp) → wpOpsIn (fen ro) 0 P ops Q (List.range' (i + 1) rest.length) (a.put o.dst undef) w := by
   intro kn' hk' hr
   have hI' : Inv c ℓ kn' gen env S a w := ⟨hI.size, hI.defers, hI.env, hI.gen, hk', hI.good, hI.fresh0, hI.pre, hI.ext, hI.fresh⟩
   obtain ⟨env', hk2, hI2⟩ := qa6 hN (hz o hom) hI' (s := undefS) rfl hr
   exact next _ _ _ _ _ _ _ hI2 hk2
  split at h
  ·rename_i hg
   have : Region.wanted o (yielded ops a.tmps) = true := by simp [Region.wanted, hg]
   rw [if_pos this]
   exact run kn hI.kn h
  ·rename_i j want hg
   split at h
   ·exact h.elim
   ·rename_i g hgs
    have hy := qhk (a := a) hgs
    have hwant : Region.wanted o (yielded ops a.tmps) = (yielded ops a.tmps j == some want) := by simp [Region.wanted, hg]
    split at h
    ·rename_i b hb
     have hgb := hI.kn _ (qcb hb)
     simp only at hgb
     rw [hgb] at hy
     simp only at hy
     split at h
     ·rename_i hbw
      have := qi1 hbw
      subst this
      rw [if_pos (by rw [hwant, hy]; simp)]
      exact run kn hI.kn h
     ·rename_i hbw
      have := beqB_ne hbw
      subst this
      rw [if_neg (by rw [hwant, hy]; cases want <;> simp)]
      exact skip kn hI.kn h
    ·split at h
     ·rename_i b tg hgf
      have hge := qbu hI hgf
      simp only [SV.den] at hge
      split at h
      ·rename_i s hs
       -- is the operation wanted?
       by_cases hw : Region.wanted o (yielded ops a.tmps) = true
       ·rw [if_pos hw]
        rw [hwant] at hw
        have hbool : a.tmps.getD g undef = .bool want := by
         rw [hy] at hw
         cases hv : a.tmps.getD g undef with
         | bool b' => rw [hv] at hw; simp at hw; rw [hw]
         | _ => rw [hv] at hw; simp at hw
        have htg : Holds a tg := by
         rcases Classical.em (Holds a tg) with h1 | h1
         ·exact h1
         ·have := hge.2 h1; rw [hbool] at this; cases this
        have hall : Holds a ((g, want) :: tg) := by
         intro p hp
         rcases List.mem_cons.1 hp with h1 | h1
         ·subst h1; exact hbool
         ·exact htg p h1
        have hpure := qaq (hI.pctx hT (hall.append hI.kn)) o hs
        refine up_wp (fun c' hc' => by rw [hc'] at hs; simp [stepPure] at hs) (qbr hpure.2 ?_)
        obtain ⟨gen', hk2, hI2⟩ := qfj hN (hz o hom) hI (v := s.den ℓ) (fun _ => ⟨hpure.1, rfl⟩) (fun hn => (hn hall).elim) h
        exact next _ _ _ _ _ _ _ hI2 hk2
       ·rw [if_neg hw]
        have hnot : ¬ Holds a ((g, want) :: tg) := by
         intro hh
         have := hh (g, want) (by simp)
         simp only at this
         rw [this] at hy
         simp only at hy
         rw [hwant, hy] at hw
         simp at hw
        obtain ⟨gen', hk2, hI2⟩ := qfj hN (hz o hom) hI (s := s) (v := undef) (fun hh => (hnot hh).elim) (fun _ => rfl) h
        exact next _ _ _ _ _ _ _ hI2 hk2
      ·rcases qea hI _ _ hI.kn h with ⟨kn', hk', hall, hA⟩ | ⟨kn', hk', hno, hB⟩
       ·have hgv : a.tmps.getD g undef = .bool want := hall (g, want) (by simp)
        rw [hgv] at hy
        simp only at hy
        rw [if_pos (by rw [hwant, hy]; simp)]
        exact run kn' hk' hA
       ·rw [if_neg ?_]
        ·exact skip kn' hk' hB
        ·intro hw
         rw [hwant] at hw
         have hbool : a.tmps.getD g undef = .bool want := by
          rw [hy] at hw
          cases hv : a.tmps.getD g undef with
          | bool b' => rw [hv] at hw; simp at hw; rw [hw]
          | _ => rw [hv] at hw; simp at hw
         have htg : Holds a tg := by
          rcases Classical.em (Holds a tg) with h1 | h1
          ·exact h1
          ·have := hge.2 h1; rw [hbool] at this; cases this
         refine hno (fun p hp => ?_)
         simp only [List.reverse_cons, List.mem_append, List.mem_reverse, List.mem_singleton] at hp
         rcases hp with h1 | h1
         ·exact htg p h1
         ·subst h1; exact hbool
     ·rename_i tg hgf
      have hge := qbu hI hgf
      have hund : a.tmps.getD g undef = undef := by
       rcases Classical.em (Holds a tg) with h1 | h1
       ·exact (hge.1 h1).trans rfl
       ·exact hge.2 h1
      rw [hund] at hy
      rw [if_neg (by rw [hwant, hy]; simp [undef])]
      exact skip kn hI.kn h
     ·exact h.elim
theorem qoq {ro : Option Nat} {N : Nat} (hN : c.N = N) (hT : TTOK P tt) {ops : Array Oper} {K : Env → St → Prop} {Kp : SV → St → Prop} {Q : Exit → Act → World → Prop} (hQ : OpsPost c K Kp Q) (hz : ∀ o ∈ ops.toList, ∀ d, o.dst = some d → d ∉ c.fz)
  (rest : List Oper) (i : Nat) (hi : ops.toList.drop i = rest) ℓ kn gen env S a w (hI : Inv c ℓ kn gen env S a w) (h : vcOps P tt N ops rest kn gen env S K Kp) : wpOpsIn (fen ro) 0 P ops Q (List.range' i rest.length) a w :=
 qnc hN hT hQ hz rest i [] (by rw [hi, List.append_nil]) ℓ kn gen env S a w hI h
def QK (c : Cx) (K : X → Env → St → Prop) : Exit → Act → World → Prop
 | .normal, a, w => ∃ ℓ env S, Inv c ℓ [] [] env S a w ∧ K .norm env S
 | .exit id, a, w => ∃ ℓ env S, Inv c ℓ [] [] env S a w ∧ K (.exit id) env S
 | .ret, a, w => ∃ ℓ env S, Inv c ℓ [] [] env S a w ∧ K .ret env S
 | .panic ch, a, w => ∃ ℓ S v, Inv c ℓ [] [] [] S a w ∧ v.wf S.own.length = true ∧ ch = [{ v := v.den ℓ, recovered := false }] ∧ K (.pan v) [] S
 | _, _, _ => False
theorem Inv.bare {ℓ : List Base} {kn : Atoms} {gen : Gen} (hI : Inv c ℓ kn gen env S a w) : Inv c ℓ [] [] env S a w :=
 ⟨hI.size, hI.defers, hI.env, fun t s tags h => by simp [gfind] at h, by simp [Holds], hI.good, hI.fresh0, hI.pre, hI.ext, hI.fresh⟩
theorem qca : ∀ {inv : Env}, envLe env inv → ∀ t s, find inv t = some s → find env t = some s
 | [], _, t, s, h => by simp [find] at h
 | (n, s0) :: r, hh, t, s, h => by
  simp only [envLe] at hh
  simp only [find] at h
  split at h
  ·rename_i hn
   have hn := Nat.eq_of_beq_eq_true hn
   cases h
   subst hn
   exact hh.1
  ·exact qca hh.2 t s h
theorem Inv.part (hI : Inv c ℓ [] [] env S a w) {env' : Env} {S' : St} (he : envLe env env') (hw : envWf S'.own.length env' = true) (hS : StLe S S') (hm : c.ℓ0.length ≤ S'.own.length) : Inv c (ℓ.take S'.own.length) [] [] env' S' a w := by
 obtain ⟨hle, hS⟩ := hS
 obtain ⟨hg, hmem⟩ := hS (c.Ja a) ℓ w hI.good
 refine ⟨hI.size, hI.defers, ?_, fun t s tags h => by simp [gfind] at h, by simp [Holds], hg, hI.fresh0, ?_, hI.ext, fun b hb => hI.fresh b (hmem b hb)⟩
 ·intro t s hs
  have h1 := qcg hw t s hs
  have h2 := hI.env t s (qca he t s hs)
  refine ⟨h1, ?_⟩
  rw [h2.2]
  refine (qy (n := S'.own.length) (fun i hi => ?_) s h1).symm
  simp [List.getD, List.getElem?_take, hi]
 ·refine List.prefix_of_prefix_length_le hI.pre (List.take_prefix _ _) ?_
  rw [List.length_take, hI.good.len]
  omega
theorem qcw {ro : Option Nat} {id : Nat} {ops : Array Oper} {Q : Exit → Act → World → Prop} (h : wpOpsIn (fen ro) 0 P ops Q (List.range' 0 ops.toList.length) a w) : (Code.region id ops false).wpIn (fen ro) 0 P Q a w := by
 refine wpIn_region ?_
 rw [List.range_eq_range']
 simpa using h
def resStep (a : Act) : ResultVar → Sem Value
 | .tmp t => pure (a.tmps.getD t undef)
 | .cell ad t => do loadVar t (← asAddr (a.tmps.getD ad undef))
theorem results_eq (fn : Func) (a : Act) : results fn a.tmps = (do let vs ← fn.results.mapM (resStep a); pure (if h : vs.size = 1 then vs[0] else .tuple vs)) := rfl
theorem qmw (hT : TTOK P tt) (hI : Inv c ℓ [] [] env S a w) {ad : Nat} {t : TypeId} {s : SV} (h : pureLoad tt S.own t (find env ad) = some s) : s.wf S.own.length = true ∧ (resStep a (.cell ad t)).run P w = .ok (s.den ℓ) w := by
 have hC := hI.pctx (P := P) (tt := tt) (al := []) hT (by simp [Holds])
 have h0 := qaq hC { (default : Oper) with op := .load t (.tmp ad) } (s := s) (by simpa [stepPure, getter, gfind] using h)
 refine ⟨h0.1, ?_⟩
 cases hf : find env ad with
 | none => rw [hf] at h; simp [pureLoad] at h
 | some x =>
  rw [hf] at h
  cases x with
  | loc i off =>
   have hv := (hI.env ad _ hf).2
   have h1 := h0.2
   simp only [execOp, Act.eval, hv, SV.den, Instr.loadAt, Instr.sureAddr, pure_bind, Sem.run_bind, Sem.run_pure] at h1
   simp only [resStep, hv, SV.den, asAddr, pure_bind]
   cases hl : (loadVar t ⟨(ℓ.getD i default).block, (ℓ.getD i default).off + off, none⟩).run P w with
   | ok v w1 => rw [hl] at h1; simp only [Result.andThen_ok, Result.ok.injEq, Next.value.injEq] at h1; rw [h1.1, h1.2]
   | halt x w1 => rw [hl] at h1; simp at h1
  | _ => simp [pureLoad] at h
theorem qdx (hT : TTOK P tt) (hI : Inv c ℓ [] [] env S a w) : ∀ (rs : List ResultVar) (l : List SV), resS tt S.own env rs = some l → qr S.own.length l = true ∧
  (rs.mapM (resStep a)).run P w = .ok (qd ℓ l) w
 | [], l, h => by simp only [resS, Option.some.injEq] at h; subst h; exact ⟨rfl, by simp [qd]⟩
 | .tmp t :: rs, l, h => by
  simp only [resS] at h
  split at h
  ·rename_i s hs
   split at h
   ·rename_i l' hl'
    cases h
    have h1 := hI.env t s hs
    have h2 := qdx hT hI rs l' hl'
    refine ⟨by simp [qr, h1.1, h2.1], ?_⟩
    simp only [List.mapM_cons, resStep, Sem.run_bind, Sem.run_pure, Result.andThen_ok, h2.2, qd, h1.2]
   ·cases h
  ·cases h
 | .cell ad t :: rs, l, h => by
  simp only [resS] at h
  split at h
  ·rename_i s hs
   split at h
   ·rename_i l' hl'
    cases h
    have h1 := qmw hT hI hs
    have h2 := qdx hT hI rs l' hl'
    refine ⟨by simp [qr, h1.1, h2.1], ?_⟩
    simp only [List.mapM_cons, Sem.run_bind, Sem.run_pure, Result.andThen_ok, h1.2, h2.2, qd]
   ·cases h
  ·cases h
theorem qb5 (hT : TTOK P tt) {fn : Func} (hI : Inv c ℓ [] [] env S a w) {r : SV} (h : resOf tt S.own env fn.results.toList = some r) : r.wf S.own.length = true ∧ (results fn a.tmps).run P w = .ok (r.den ℓ) w := by
 unfold resOf at h
 have key : ∀ l, resS tt S.own env fn.results.toList = some l → (results fn a.tmps).run P w = .ok (if h : (qd ℓ l).toArray.size = 1 then (qd ℓ l).toArray[0] else .tuple (qd ℓ l).toArray) w := by
  intro l hl
  have h2 := (qdx (P := P) hT hI _ l hl).2
  rw [results_eq, Sem.run_bind, Array.mapM_eq_mapM_toList, Sem.run_map, h2]
  simp only [Result.andThen_ok, Sem.run_pure]
 split at h
 ·rename_i s hs
  cases h
  have h1 := (qdx (P := P) hT hI _ _ hs).1
  refine ⟨by simpa [qr] using h1, ?_⟩
  rw [key _ hs]
  simp [qd]
 ·rename_i l hne hl
  cases h
  have h1 := (qdx (P := P) hT hI _ _ hl).1
  refine ⟨by simpa [SV.wf] using h1, ?_⟩
  rw [key _ hl]
  have : ¬ (qd ℓ l).toArray.size = 1 := by
   simp only [List.size_toArray, qo]
   intro h1
   obtain ⟨s, rfl⟩ := List.length_eq_one_iff.1 h1
   exact hne s rfl
  rw [dif_neg this]
  rfl
 ·cases h
theorem qb9 : ∀ (i : Nat) (args : List SV) (t : Nat) (s : SV), find (argEnv i args) t = some s → i ≤ t ∧ args[t - i]? = some s
 | i, [], t, s, h => by simp [argEnv, find] at h
 | i, s0 :: r, t, s, h => by
  simp only [argEnv, find] at h
  split at h
  ·rename_i hn
   have hn := Nat.eq_of_beq_eq_true hn
   cases h
   subst hn
   simp
  ·have := qb9 (i + 1) r t s h
   refine ⟨by omega, ?_⟩
   obtain ⟨k, hk⟩ : ∃ k, t - i = k + 1 := ⟨t - i - 1, by omega⟩
   rw [hk, List.getElem?_cons_succ]
   have e : t - (i + 1) = k := by omega
   rw [← e]; exact this.2
end
end

section
open Go
def fieldsOK (P : Program) : List Field → List Nat → Prop
 | [], [] => True
 | f :: fs, n :: ns => (Nat.beq n 0 = false ∧ ∀ w, (sizeOf f.type).run P w = .ok n w) ∧ fieldsOK P fs ns
 | _, _ => False
theorem qgh {P : Program} : ∀ {fs : List Field} {ns : List Nat}, fieldsOK P fs ns → ns.length = fs.length ∧ ∀ (i : Nat) (f : Field) (n : Nat), fs[i]? = some f → ns[i]? = some n → n ≠ 0 ∧ ∀ w, (sizeOf f.type).run P w = .ok n w
 | [], [], _ => ⟨rfl, fun i f n h => by simp at h⟩
 | [], _ :: _, h => by simp [fieldsOK] at h
 | _ :: _, [], h => by simp [fieldsOK] at h
 | f :: fs, n :: ns, h => by
  simp only [fieldsOK] at h
  obtain ⟨h1, h2⟩ := qgh h.2
  refine ⟨by simp [h1], fun i f' n' hf hn => ?_⟩
  cases i with
  | zero =>
   simp at hf hn
   subst hf hn
   refine ⟨fun e => ?_, h.1.2⟩
   have := h.1.1
   subst e
   simp at this
  | succ i => exact h2 i f' n' (by simpa using hf) (by simpa using hn)
theorem tyStruct {P : Program} {t : TypeId} {offs szs : List Nat} {zs : List Value} {fs : Array Field} (h1 : ∀ w, (isAgg t).run P w = .ok true w) (h2 : ∀ w, (sizeOf t).run P w = .ok zs.length w) (h3 : ∀ w, (zeroValue t).run P w = .ok (.agg zs.toArray) w)
  (h4 : P.underlying t = some (.struct fs)) (h5 : fs.toList.map (·.offset) = offs) (h6 : fieldsOK P fs.toList szs) : TyOK P t (.struct offs szs zs) := by
 obtain ⟨h7, h8⟩ := qgh h6
 exact ⟨h1, h2, h3, fs, h4, h5, by simpa using h7, fun i f n hf hn => h8 i f n (by simpa using hf) hn⟩
theorem Meets.mono {P : Program} {cl : Cal} {args : List SV} {S : St} {R R' : Out → St → Prop} (h : Meets P cl args S R) (hr : ∀ o S', R o S' → R' o S') : Meets P cl args S R' := by
 intro J ℓ w hG hJ
 obtain ⟨nx, h1, h2⟩ := h J ℓ w hG hJ
 exact ⟨nx, h1, h2.mono fun e w' ⟨ℓ', o, S', a1, a2, a3, a4, a5, a6, a7⟩ => ⟨ℓ', o, S', a1, a2, a3, a4, a5, a6, hr _ _ a7⟩⟩
theorem qa4 {P : Program} {cl : Cal} {args : List SV} {S : St} {R : Out → St → Prop} (h : (∀ p ∈ S.reps, okD p.2) → Meets P cl args S R) : Meets P cl args S R := by
 intro J ℓ w hG hJ
 exact h (fun p hp => (hG.reps p hp).ok) J ℓ w hG hJ
def Pure (P : Program) (cl : Cal) (args : List SV) (rs : List (Value × D)) (R : SV → List (Value × D) → Prop) : Prop :=
 Meets P cl args ⟨[], [], rs⟩ (fun o S' => ∃ r out, o = .ret r ∧ S' = ⟨[], [], out⟩ ∧ r.wf 0 = true ∧ R r out)
theorem denL_nil (ℓ ℓ' : List Base) (l : List SV) (h : qr 0 l = true) : qd ℓ l = qd ℓ' l := qx (n := 0) (fun i hi => by omega) l h
theorem den_nil (ℓ ℓ' : List Base) (s : SV) (h : s.wf 0 = true) : s.den ℓ = s.den ℓ' := qy (n := 0) (fun i hi => by omega) s h
theorem qjv (ℓ ℓ' : List Base) (args : List SV) (cl : Cal) (h : qr 0 args = true) (hc : cl.wf 0 = true) : cl.sem ℓ args = cl.sem ℓ' args := by
 have h1 := denL_nil ℓ ℓ' args h
 cases cl with
 | val F => have h2 := den_nil ℓ ℓ' F hc; simp only [Cal.sem]; rw [h1, h2]
 | meth r name => have h2 := den_nil ℓ ℓ' r hc; simp only [Cal.sem]; rw [h1, h2]
theorem Pure.at {P : Program} {cl : Cal} {args : List SV} {rs : List (Value × D)} {R : SV → List (Value × D) → Prop} {S : St} {K : Out → St → Prop} (h : Pure P cl args rs R) (hrs : ∀ p ∈ rs, p ∈ S.reps) (hargs : qr 0 args = true) (hcl : cl.wf 0 = true)
  (k : ∀ r out, R r out → addReps S out (fun S' => K (.ret r) S')) : Meets P cl args S K := by
 simp only [qbs] at k
 intro J ℓ w hG hJ
 have hG0 : Good (Jx J (mutS ℓ S)) [] ⟨[], [], rs⟩ w := by
  refine ⟨rfl, by simp [mutS, mutL], by simp [mutS, mutL], by simp [mutS, mutL], by simp, by simp, by simp, ?_⟩
  intro p hp
  refine (hG.reps p (hrs p hp)).map (fun b _ hb => ⟨⟨hb, by simp [mutS, mutL]⟩, rfl⟩)
 have hJ0 : Fresh (Jx J (mutS ℓ S)) w := fun b hb => ⟨hJ b hb, fun hm => by have := hG.lt b hm; omega⟩
 obtain ⟨nx, h1, h2⟩ := h _ [] w hG0 hJ0
 refine ⟨nx, by rw [qjv ℓ [] args cl hargs hcl]; exact h1, h2.mono ?_⟩
 rintro e w' ⟨ℓ', o, S', he, hwf, _, hx, hG', hf, r, out, rfl, rfl, hr0, hR⟩
 have hx0 : Ext [] w w' := by simpa [mutS, mutL] using hx
 have hℓ' : ℓ' = [] := by have := hG'.len; simpa using this
 subst hℓ'
 refine ⟨ℓ, .ret r, ⟨S.own, S.accs, S.reps ++ out⟩, ?_, SV.wf_mono (Nat.zero_le _) r hr0, List.prefix_refl _, hx0.mono (by simp), ?_, fun b hb => .inl hb, k r out hR⟩
 ·rw [he]; simp only [Out.ending]; rw [qy (n := 0) (ℓ := ℓ) (ℓ' := []) (fun i hi => by omega) r hr0]
 ·have hsame : ∀ b, b < w.heap.size → w'.heap[b]? = w.heap[b]? := fun b hb => hx0.block b hb (by simp)
  have hm : mutS ℓ ⟨S.own, S.accs, S.reps ++ out⟩ = mutS ℓ S := rfl
  refine ⟨hG.len, hG.nodup, fun b hb => Nat.lt_of_lt_of_le (hG.lt b hb) hx0.size, hG.memJ, hG.wf, ?_, ?_, ?_⟩
  ·intro i b k hi hk
   exact (hG.own i b k hi hk).keep (qak hG.wf hk) (fun _ _ => rfl) (fun _ _ hj => hj) (fun hlt => hsame _ hlt)
  ·intro a ha
   exact (hG.accs a ha).keep (fun x hx hj => ⟨hj, hsame x hx⟩) (fun x _ hlt => hsame x hlt)
  ·intro p hp
   rcases List.mem_append.1 hp with h3 | h3
   ·exact (hG.reps p h3).map (fun b hb hj => ⟨hj, hsame b hb⟩)
   ·have := hG'.reps p h3
    refine this.map (fun b _ hj => ⟨?_, rfl⟩)
    exact hj.1
theorem AtRet.pure {r : SV} {S : St} {R : SV → List (Value × D) → Prop} (out : List (Value × D)) (hr : r.wf 0 = true) (ho : ∀ p ∈ out, p ∈ S.reps) (h : R r out) : AtRet 0 (.ret r) S (fun o S' => ∃ r out, o = .ret r ∧ S' = ⟨[], [], out⟩ ∧ r.wf 0 = true ∧ R r out) :=
 ⟨⟨[], [], out⟩, StLe.part S 0 (Nat.zero_le _) (by simp) [] (List.nil_sublist _) out ho, Nat.zero_le _, hr, r, out, rfl, rfl, hr, h⟩
def openD : D → (List SV → List (Value × D) → Prop) → Prop
 | .int k n, K => K [.v (.int k n)] []
 | .bool b, K => K [.v (.bool b)] []
 | .str s, K => K [.v (.string s)] []
 | .sl k ds, K => ∀ a cap, ds.length ≤ cap → ds.length ≤ 1152921504606846976 → K [.v (.slice a ds.length cap)] [(.slice a ds.length cap, .sl k ds)]
 | .agg ds, K => openA ds K
 | .ifc t d, K => openD d (fun svs rs => match svs with
  | [s] => K [.ifc t s] rs
  | _ => True)
where
 openA : List D → (List SV → List (Value × D) → Prop) → Prop
 | [], K => K [] []
 | d :: r, K => openD d (fun xs rs => openA r (fun ys ss => forceL (xs ++ ys) (fun l => forceL (rs ++ ss) (fun l' => K l l'))))
mutual
theorem qf1 {J : Nat → Prop} {w : World} : ∀ (d : D) (cs : List Value) (K : List SV → List (Value × D) → Prop), RepC J w d cs → openD d K → ∃ svs rs, (∀ ℓ, qd ℓ svs = cs) ∧ qr 0 svs = true ∧ (∀ p ∈ rs, Rep J w p.1 p.2) ∧ K svs rs
 | .int k n, cs, K, h, hk => by simp only [RepC] at h; subst h; exact ⟨_, _, fun ℓ => rfl, rfl, by simp, hk⟩
 | .bool b, cs, K, h, hk => by simp only [RepC] at h; subst h; exact ⟨_, _, fun ℓ => rfl, rfl, by simp, hk⟩
 | .str s, cs, K, h, hk => by simp only [RepC] at h; subst h; exact ⟨_, _, fun ℓ => rfl, rfl, by simp, hk⟩
 | .sl k ds, cs, K, h, hk => by
  have h' := h
  simp only [RepC] at h
  obtain ⟨a, cap, rfl, hle, _⟩ := h
  refine ⟨_, _, fun ℓ => rfl, rfl, ?_, hk a cap hle.1 hle.2⟩
  intro p hp
  simp at hp
  subst hp
  exact h'
 | .agg ds, cs, K, h, hk => by
  simp only [RepC] at h
  simp only [openD] at hk
  exact qkk ds cs K h hk
 | .ifc t d, cs, K, h, hk => by
  simp only [RepC] at h
  obtain ⟨v, rfl, h2⟩ := h
  simp only [openD] at hk
  obtain ⟨svs, rs, e1, w1, p1, hk1⟩ := qf1 d [v] _ h2 hk
  have hl : svs.length = 1 := by have := congrArg List.length (e1 []); simpa [qo] using this
  match svs, hl with
  | [s], _ =>
   refine ⟨[.ifc t s], rs, fun ℓ => ?_, by simpa [qr, SV.wf] using w1, p1, hk1⟩
   have := e1 ℓ
   simp only [qd, List.cons.injEq, and_true] at this
   simp only [qd, SV.den, this]
theorem qkk {J : Nat → Prop} {w : World} : ∀ (ds : List D) (cs : List Value) (K : List SV → List (Value × D) → Prop), RepA J w ds cs → openD.openA ds K → ∃ svs rs, (∀ ℓ, qd ℓ svs = cs) ∧ qr 0 svs = true ∧ (∀ p ∈ rs, Rep J w p.1 p.2) ∧ K svs rs
 | [], cs, K, h, hk => by
  simp only [RepA] at h
  subst h
  exact ⟨[], [], fun ℓ => rfl, rfl, by simp, hk⟩
 | d :: ds, cs, K, h, hk => by
  simp only [RepA] at h
  obtain ⟨x, y, rfl, h1, h2⟩ := h
  simp only [openD.openA] at hk
  obtain ⟨sx, rx, e1, w1, p1, hk1⟩ := qf1 d x _ h1 hk
  obtain ⟨sy, ry, e2, w2, p2, hk2⟩ := qkk ds y _ h2 hk1
  rw [qu, qu] at hk2
  refine ⟨_, _, fun ℓ => by rw [qar, e1, e2], qhh w1 w2, ?_, hk2⟩
  intro p hp
  rcases List.mem_append.1 hp with h3 | h3
  ·exact p1 p h3
  ·exact p2 p h3
 end
theorem Good.know {J : Nat → Prop} {ℓ : List Base} {S : St} {w : World} (h : Good J ℓ S w) (b : Base) (cs : List SV) (hcs : qr 0 cs = true) (hok : BlkOK (Jx J (mutS ℓ S)) ℓ w b (.imm cs)) (rs : List (Value × D)) (hrs : ∀ p ∈ rs, Rep (Jx J (mutS ℓ S)) w p.1 p.2) :
  Good J (ℓ ++ [b]) ⟨S.own ++ [.imm cs], S.accs, S.reps ++ rs⟩ w ∧ ∀ x, x ∈ mutS (ℓ ++ [b]) ⟨S.own ++ [.imm cs], S.accs, S.reps ++ rs⟩ ↔ x ∈ mutS ℓ S := by
 have hm : ∀ x, x ∈ mutS (ℓ ++ [b]) ⟨S.own ++ [.imm cs], S.accs, S.reps⟩ ↔ x ∈ mutS ℓ S := by
  intro x
  rw [qd4 h.len b (.imm cs) x]
  simp [Blk.mut]
 have hm' : mutS (ℓ ++ [b]) ⟨S.own ++ [.imm cs], S.accs, S.reps⟩ = mutS ℓ S := by
  simp [mutS, qb6 h.len, mutL, Blk.mut]
 have hg := h.push b (.imm cs) (qbc (Nat.zero_le _) cs hcs) (by simp [Blk.mut]) (Nat.le_refl _) (fun _ _ => rfl) (by rw [hm']; exact hok)
 have hm2 : mutS (ℓ ++ [b]) ⟨S.own ++ [.imm cs], S.accs, S.reps ++ rs⟩ = mutS ℓ S := hm'
 refine ⟨⟨hg.len, hg.nodup, hg.lt, hg.memJ, hg.wf, hg.own, hg.accs, ?_⟩, fun x => by rw [hm2]⟩
 intro p hp
 rcases List.mem_append.1 hp with h3 | h3
 ·exact hg.reps p h3
 ·rw [hm2]; exact hrs p h3
theorem Good.reps_add {J : Nat → Prop} {ℓ : List Base} {S : St} {w : World} (h : Good J ℓ S w) (rs : List (Value × D)) (hrs : ∀ p ∈ rs, Rep (Jx J (mutS ℓ S)) w p.1 p.2) : Good J ℓ ⟨S.own, S.accs, S.reps ++ rs⟩ w := by
 refine ⟨h.len, h.nodup, h.lt, h.memJ, h.wf, h.own, h.accs, ?_⟩
 intro p hp
 rcases List.mem_append.1 hp with h3 | h3
 ·exact h.reps p h3
 ·exact hrs p h3
theorem OwnKept.append (S : St) (l : List Blk) (accs : List Acc) (reps : List (Value × D)) : OwnKept S ⟨S.own ++ l, accs, reps⟩ := by
 intro i cs h
 have hlt : i < S.own.length := by
  rcases Nat.lt_or_ge i S.own.length with h1 | h1
  ·exact h1
  ·rw [qab, List.getElem?_eq_none h1] at h; simp [cellsIn] at h
 rw [qab] at h ⊢
 show cellsIn ((S.own ++ l)[i]?) = some cs
 rw [List.getElem?_append_left hlt]
 exact h
theorem qbz (b off k : Nat) : (⟨b, off, none⟩ : Addr).add k = ⟨b, off + k, none⟩ := by
 unfold Addr.add; split
 ·rename_i h; simp [h]
 ·rfl
theorem qh {P : Program} {tt : Tab} (hT : TTOK P tt) {t e : TypeId} {k : Nat} {x ix : SV} {S : St} {K : SV → St → Prop} {a : Option Addr} {n c : Nat} {i : Int} {kk : IntKind} {ds : List D} {d : D} (j : Nat) (hx : x = .v (.slice a n c)) (hi : ix = .v (.int kk i)) (ht : tt t = some (.slice e k))
  (hr : nth S.reps j = some (.slice a n c, .sl k ds)) (h0 : 0 ≤ i) (hd : ds[i.toNat]? = some d)
  (h : openD d (fun cs rs => forceL (S.own ++ [.imm cs]) (fun own => putOwn S own (fun S1 => addReps S1 rs (fun S' => K (.loc S.own.length 0) S'))))) : AtPure P (fun ℓ => Instr.indexAt t (x.den ℓ) (ix.den ℓ)) S K := by
 subst hx hi
 constructor
 intro J ℓ w hG hJ
 have hrep := hG.reps _ (List.mem_of_getElem? (by rw [← qab]; exact hr))
 simp only [Rep, RepC] at hrep
 obtain ⟨a', cap, heq, hle, hbl⟩ := hrep
 simp only [List.cons.injEq, Value.slice.injEq, and_true] at heq
 obtain ⟨rfl, rfl, rfl⟩ := heq
 have hlt : i.toNat < ds.length := (List.getElem?_eq_some_iff.1 hd).1
 rcases hbl with h1 | ⟨b, off, cc, T, fz, rfl, hjb, hb, he⟩
 ·subst h1; simp at hlt
 ·obtain ⟨hlen, hc⟩ := he.get hd
  obtain ⟨svs, rs, e1, w1, p1, hk⟩ := qf1 d _ _ hc h
  rw [qu, qan, qbs] at hk
  obtain ⟨hG', hm⟩ := hG.know ⟨b, off + i.toNat * k⟩ svs w1 ⟨hjb, cc, T, fz, hb, k, by rw [e1, List.drop_drop]⟩ rs p1
  refine ⟨_, ℓ ++ [⟨b, off + i.toNat * k⟩], _, ?_, by simpa using loc_wf _, List.prefix_append _ _, hG', fun y hy => (hm y).1 hy, OwnKept.append _ _ _ _, hk⟩
  intro w'
  obtain ⟨_, hu, hse⟩ := hT t _ ht
  simp only [Instr.indexAt, SV.den, asIntOf, pure_bind, Sem.run_bind, qq hu, Result.andThen_ok, Sem.run_pure]
  rw [if_pos ⟨h0, by omega⟩]
  simp only [Sem.run_bind, hse, Result.andThen_ok, Sem.run_pure, qbz]
  rw [← hG.len, qd7]
  simp
mutual
def RepS (reps : List (Value × D)) : D → List SV → Prop
 | .int k n, cs => cs = [.v (.int k n)]
 | .bool b, cs => cs = [.v (.bool b)]
 | .str s, cs => cs = [.v (.string s)]
 | .sl k ds, cs => (∃ v, cs = [.v v] ∧ (v, .sl k ds) ∈ reps) ∨ (ds = [] ∧ cs = [.v (.slice none 0 0)])
 | .agg ds, cs => RepSA reps ds cs
 | .ifc t d, cs => ∃ s, cs = [.ifc t s] ∧ RepS reps d [s]
def RepSA (reps : List (Value × D)) : List D → List SV → Prop
 | [], cs => cs = []
 | d :: ds, cs => ∃ x y, cs = x ++ y ∧ RepS reps d x ∧ RepSA reps ds y
 end
mutual
theorem RepS.sound {J : Nat → Prop} {w : World} {ℓ : List Base} {reps : List (Value × D)} (hr : ∀ p ∈ reps, Rep J w p.1 p.2) : ∀ (d : D) (cs : List SV), RepS reps d cs → RepC J w d (qd ℓ cs)
 | .int k n, cs, h => by simp only [RepS] at h; subst h; rfl
 | .bool b, cs, h => by simp only [RepS] at h; subst h; rfl
 | .str s, cs, h => by simp only [RepS] at h; subst h; rfl
 | .sl k ds, cs, h => by
  simp only [RepS] at h
  rcases h with ⟨v, rfl, hv⟩ | ⟨rfl, rfl⟩
  ·exact hr _ hv
  ·exact ⟨none, 0, rfl, ⟨Nat.le_refl _, Nat.zero_le _⟩, .inl rfl⟩
 | .agg ds, cs, h => by
  simp only [RepS] at h
  simp only [RepC]
  exact RepSA.sound hr ds cs h
 | .ifc t d, cs, h => by
  simp only [RepS] at h
  obtain ⟨s, rfl, h2⟩ := h
  exact ⟨s.den ℓ, rfl, RepS.sound hr d [s] h2⟩
theorem RepSA.sound {J : Nat → Prop} {w : World} {ℓ : List Base} {reps : List (Value × D)} (hr : ∀ p ∈ reps, Rep J w p.1 p.2) : ∀ (ds : List D) (cs : List SV), RepSA reps ds cs → RepA J w ds (qd ℓ cs)
 | [], cs, h => by simp only [RepSA] at h; subst h; rfl
 | d :: ds, cs, h => by
  simp only [RepSA] at h
  obtain ⟨x, y, rfl, h1, h2⟩ := h
  rw [qar]
  exact ⟨_, _, rfl, RepS.sound hr d x h1, RepSA.sound hr ds y h2⟩
 end
def wfB (n : Nat) : List Blk → Bool
 | [] => true
 | k :: r => match k.wf n with
  | true => wfB n r
  | false => false
theorem qd8 {n : Nat} : ∀ {l : List Blk}, wfB n l = true → ∀ k ∈ l, k.wf n = true
 | [], _, k, hk => by simp at hk
 | k0 :: r, h, k, hk => by
  simp only [wfB] at h
  split at h
  ·rename_i h0
   rcases List.mem_cons.1 hk with h1 | h1
   ·subst h1; exact h0
   ·exact qd8 h k h1
  ·cases h
theorem StLe.of {S S' : St} (h1 : S.own.take S'.own.length = S'.own) (h2 : S'.accs.Sublist S.accs) (h3 : ∀ p ∈ S'.reps, p ∈ S.reps) (hle : Nat.ble S'.own.length S.own.length = true) (hwf : wfB S'.own.length S'.own = true) : StLe S S' := by
 have := StLe.part S S'.own.length (Nat.le_of_ble_eq_true hle) (by rw [h1]; exact qd8 hwf) S'.accs h2 S'.reps h3
 rw [h1] at this
 exact this
theorem StLe.to {S : St} (own : List Blk) (reps : List (Value × D)) (h1 : S.own.take own.length = own) (h3 : ∀ p ∈ reps, p ∈ S.reps) (hle : Nat.ble own.length S.own.length = true) (hwf : wfB own.length own = true) : StLe S ⟨own, [], reps⟩ :=
 StLe.of h1 (List.nil_sublist _) h3 hle hwf
theorem qf8 {m : Nat} {o : Out} {S : St} {R : Out → St → Prop} (own : List Blk) (h1 : S.own.take own.length = own) (hm : Nat.beq own.length m = true) (hle : Nat.ble own.length S.own.length = true) (hwf : wfB own.length own = true) (ho : o.wf own.length = true) (h : R o ⟨own, [], []⟩) : AtRet m o S R :=
 ⟨⟨own, [], []⟩, StLe.to own [] h1 (by simp) hle hwf, Nat.le_of_eq (Nat.eq_of_beq_eq_true hm).symm, ho, h⟩
theorem StLe.refl (S : St) : StLe S S := by
 refine ⟨Nat.le_refl _, fun J ℓ w h => ?_⟩
 rw [← h.len, List.take_length]
 exact ⟨h, fun _ hb => hb⟩
theorem wrap_i64 {n : Int} (h1 : -9223372036854775808 ≤ n) (h2 : n ≤ 9223372036854775807) : IntKind.i64.wrap n = n := by
 rw [IntKind.wrap_i64]; omega
end

section
open Go
def Blk.ren (r : Nat → Nat) : Blk → Blk
 | .cells T cs => .cells T (qaz r cs)
 | .obj o => .obj o
 | .imm cs => .imm (qaz r cs)
 | .dead => .dead
 | .lost => .lost
 | .iter i s n p => .iter (r i) s n p
 | .lp x => .lp ⟨x.N, envRen r x.env, x.ps, x.assign, x.body, x.state, x.pend, x.fn⟩
theorem qmn {r : Nat → Nat} : ∀ {env : Env} {t : Nat} {s : SV}, find env t = some s → find (envRen r env) t = some (s.ren r)
 | [], t, s, h => by simp [find] at h
 | (n, s1) :: e, t, s, h => by
  simp only [find, envRen] at h ⊢
  cases hb : Nat.beq n t with
  | true => rw [hb] at h; cases h; rfl
  | false => rw [hb] at h; exact qmn h
def Out.ren (r : Nat → Nat) : Out → Out
 | .ret x => .ret (x.ren r)
 | .pan x => .pan (x.ren r)
def Cal.ren (r : Nat → Nat) : Cal → Cal
 | .val F => .val (F.ren r)
 | .meth x name => .meth (x.ren r) name
theorem qa0 (r : Nat → Nat) (k : Blk) : (k.ren r).mut = k.mut := by cases k <;> rfl
theorem qje : ∀ {ℓ : List Base} {own : List Blk}, (mutL ℓ own).Nodup → ∀ (i j : Nat) (b b' : Base) (k k' : Blk), ℓ[i]? = some b → own[i]? = some k → k.mut = true → ℓ[j]? = some b' → own[j]? = some k' → k'.mut = true → b.block = b'.block → i = j := by
 intro ℓ
 induction ℓ with
 | nil => intro own _ i j b b' k k' h1; simp at h1
 | cons c ℓ ih =>
  intro own hnd i j b b' k k' h1 h2 h3 h4 h5 h6 h7
  cases own with
  | nil => simp at h2
  | cons q own =>
   simp only [mutL] at hnd
   rw [List.nodup_append] at hnd
   cases i with
   | zero =>
    cases j with
    | zero => rfl
    | succ j =>
     simp at h1 h2 h4 h5
     subst h1 h2
     simp only [h3, if_true] at hnd
     exact (hnd.2.2 c.block (by simp) b'.block (mem_mutL.2 ⟨j, b', k', h4, h5, h6, rfl⟩) h7).elim
   | succ i =>
    cases j with
    | zero =>
     simp at h1 h2 h4 h5
     subst h4 h5
     simp only [h6, if_true] at hnd
     exact (hnd.2.2 c.block (by simp) b.block (mem_mutL.2 ⟨i, b, k, h1, h2, h3, rfl⟩) h7.symm).elim
    | succ j =>
     simp at h1 h2 h4 h5
     rw [ih hnd.2.1 i j b b' k k' h1 h2 h3 h4 h5 h6 h7]
theorem qlr : ∀ {ℓ : List Base} {own : List Blk}, (∀ (i j : Nat) (b b' : Base) (k k' : Blk), ℓ[i]? = some b → own[i]? = some k → k.mut = true → ℓ[j]? = some b' → own[j]? = some k' → k'.mut = true → b.block = b'.block → i = j) → (mutL ℓ own).Nodup := by
 intro ℓ
 induction ℓ with
 | nil => intro own _; simp [mutL]
 | cons c ℓ ih =>
  intro own h
  cases own with
  | nil => simp [mutL]
  | cons q own =>
   simp only [mutL]
   rw [List.nodup_append]
   refine ⟨by split <;> simp, ih (fun i j b b' k k' h1 h2 h3 h4 h5 h6 h7 => by
    have := h (i + 1) (j + 1) b b' k k' (by simpa using h1) (by simpa using h2) h3 (by simpa using h4) (by simpa using h5) h6 h7
    omega), ?_⟩
   intro x hx y hy hxy
   split at hx
   ·rename_i hq
    simp at hx
    subst hx hxy
    obtain ⟨i, b, k, h1, h2, h3, h4⟩ := mem_mutL.1 hy
    have := h 0 (i + 1) c b q k rfl rfl hq (by simpa using h1) (by simpa using h2) h3 h4.symm
    omega
   ·simp at hx
theorem qff : ∀ {ℓ : List Base} {own own' : List Blk}, own.map Blk.mut = own'.map Blk.mut → mutL ℓ own = mutL ℓ own'
 | [], own, own', _ => by simp [mutL]
 | b :: ℓ, [], [], _ => rfl
 | b :: ℓ, [], _ :: _, h => by simp at h
 | b :: ℓ, _ :: _, [], h => by simp at h
 | b :: ℓ, k :: ks, k' :: ks', h => by
  simp only [List.map_cons, List.cons.injEq] at h
  simp only [mutL, h.1, qff (ℓ := ℓ) h.2]
def setAll (own : List Blk) : List Nat → List Blk → List Blk
 | i :: ix, k :: ks => setAll (own.set i k) ix ks
 | _, _ => own
theorem qbh : ∀ (ix : List Nat) (ks own : List Blk), (setAll own ix ks).length = own.length
 | [], ks, own => by cases ks <;> rfl
 | i :: ix, [], own => rfl
 | i :: ix, k :: ks, own => by simp only [setAll, qbh ix ks, List.length_set]
theorem qcn : ∀ (ix : List Nat) (ks own : List Blk) (i : Nat), i ∉ ix → (setAll own ix ks)[i]? = own[i]?
 | [], ks, own, i, _ => by cases ks <;> rfl
 | j :: ix, [], own, i, _ => rfl
 | j :: ix, k :: ks, own, i, h => by
  simp only [List.mem_cons, not_or] at h
  simp only [setAll, qcn ix ks _ i h.2]
  rw [List.getElem?_set_ne (Ne.symm h.1)]
theorem qgg : ∀ (ix : List Nat) (ks own : List Blk) (p i : Nat) (k : Blk), ix.Nodup → ix[p]? = some i → ks[p]? = some k → i < own.length → (setAll own ix ks)[i]? = some k
 | [], ks, own, p, i, k, _, h, _, _ => by simp at h
 | j :: ix, [], own, p, i, k, _, _, h, _ => by simp at h
 | j :: ix, q :: ks, own, 0, i, k, hn, h1, h2, h3 => by
  simp at h1 h2
  subst h1 h2
  simp only [setAll]
  rw [qcn ix ks _ j (List.nodup_cons.1 hn).1, List.getElem?_set_self h3]
 | j :: ix, q :: ks, own, p + 1, i, k, hn, h1, h2, h3 => by
  simp only [setAll]
  exact qgg ix ks _ p i k (List.nodup_cons.1 hn).2 (by simpa using h1) (by simpa using h2) (by simpa using h3)
theorem ql5 : ∀ (ix : List Nat) (ks own : List Blk), (∀ (p i : Nat) (k : Blk), ix[p]? = some i → ks[p]? = some k → ∃ q, own[i]? = some q ∧ q.mut = k.mut) → ix.Nodup → (setAll own ix ks).map Blk.mut = own.map Blk.mut
 | [], ks, own, _, _ => by cases ks <;> rfl
 | i :: ix, [], own, _, _ => rfl
 | i :: ix, k :: ks, own, h, hn => by
  simp only [setAll]
  obtain ⟨q, hq, hm⟩ := h 0 i k rfl rfl
  have e : (own.set i k).map Blk.mut = own.map Blk.mut := by
   apply List.ext_getElem?
   intro j
   simp only [List.getElem?_map, List.getElem?_set]
   split
   ·subst_vars
    split
    ·simp [hq, hm]
    ·rename_i hlt; rw [List.getElem?_eq_none (by omega)] at hq; cases hq
   ·rfl
  rw [ql5 ix ks _ ?_ (List.nodup_cons.1 hn).2, e]
  intro p j k' h1 h2
  have hne : j ≠ i := fun e => (List.nodup_cons.1 hn).1 (e ▸ List.mem_of_getElem? h1)
  obtain ⟨q', hq', hm'⟩ := h (p + 1) j k' (by simpa using h1) (by simpa using h2)
  exact ⟨q', by rw [List.getElem?_set_ne (Ne.symm hne)]; exact hq', hm'⟩
theorem BlkOK.ren {J J' : Nat → Prop} {ℓ ℓ' : List Base} {w : World} {b : Base} {k : Blk} {n : Nat} {r : Nat → Nat} (hr : ∀ i, i < n → ℓ.getD (r i) default = ℓ'.getD i default) (hw : k.wf n = true) (hJ : ∀ x, J x → J' x) : BlkOK J ℓ' w b k → BlkOK J' ℓ w b (k.ren r) := by
 intro h
 cases k with
 | cells T cs =>
  simp only [BlkOK, Blk.ren, Blk.wf] at h hw ⊢
  rw [qay hr cs hw]; exact h
 | obj o => exact h
 | imm cs =>
  simp only [BlkOK, Blk.ren, Blk.wf] at h hw ⊢
  rw [qay hr cs hw]; exact ⟨hJ _ h.1, h.2⟩
 | dead => trivial
 | lost => trivial
 | lp x =>
  simp only [BlkOK, Blk.ren, Blk.wf] at h hw ⊢
  obtain ⟨h0, q, hb, h1, h2, h3, h4, h5, h6, h7⟩ := h
  refine ⟨h0, q, hb, h1, h2, h3, h4, h5, h6, fun t s hs => ?_⟩
  obtain ⟨s0, hs0, rfl⟩ := find_ren hs
  rw [qbi hr s0 (qcg hw t s0 hs0)]
  exact h7 t s0 hs0
 | iter i s n p =>
  simp only [BlkOK, Blk.ren, Blk.wf, blt_true] at h hw ⊢
  rw [hr i hw]; exact h
theorem BlkOK.unren {J J' : Nat → Prop} {ℓ ℓ' : List Base} {w : World} {b : Base} {k : Blk} {n : Nat} {r : Nat → Nat} (hr : ∀ i, i < n → ℓ.getD (r i) default = ℓ'.getD i default) (hw : k.wf n = true) (hJ : ∀ x, J x → J' x) : BlkOK J ℓ w b (k.ren r) → BlkOK J' ℓ' w b k := by
 intro h
 cases k with
 | cells T cs =>
  simp only [BlkOK, Blk.ren, Blk.wf] at h hw ⊢
  rw [qay hr cs hw] at h; exact h
 | obj o => exact h
 | imm cs =>
  simp only [BlkOK, Blk.ren, Blk.wf] at h hw ⊢
  rw [qay hr cs hw] at h; exact ⟨hJ _ h.1, h.2⟩
 | dead => trivial
 | lost => trivial
 | lp x =>
  simp only [BlkOK, Blk.ren, Blk.wf] at h hw ⊢
  obtain ⟨h0, q, hb, h1, h2, h3, h4, h5, h6, h7⟩ := h
  refine ⟨h0, q, hb, h1, h2, h3, h4, h5, h6, fun t s hs => ?_⟩
  rw [← qbi hr s (qcg hw t s hs)]
  exact h7 t _ (qmn hs)
 | iter i s n p =>
  simp only [BlkOK, Blk.ren, Blk.wf, blt_true] at h hw ⊢
  rw [hr i hw] at h; exact h
theorem Blk.wf_ren {n m : Nat} {r : Nat → Nat} (h : ∀ i, i < n → r i < m) {k : Blk} (hk : k.wf n = true) : (k.ren r).wf m = true := by
 cases k <;> simp only [Blk.wf, Blk.ren] at hk ⊢
 ·exact qb8 h _ hk
 ·exact qb8 h _ hk
 ·exact qoi h hk
 ·simp only [blt_true] at hk ⊢; exact h _ hk
theorem qop {n : Nat} {ℓ ℓ' : List Base} {r : Nat → Nat} (h : ∀ i, i < n → ℓ.getD (r i) default = ℓ'.getD i default) (args : List SV) (cl : Cal) (ha : qr n args = true) (hc : cl.wf n = true) : (cl.ren r).sem ℓ (qaz r args) = cl.sem ℓ' args := by
 have h1 := qay h args ha
 cases cl with
 | val F => have h2 := qbi h F hc; simp only [Cal.ren, Cal.sem]; rw [h1, h2]
 | meth x name => have h2 := qbi h x hc; simp only [Cal.ren, Cal.sem]; rw [h1, h2]
def rix (ix : List Nat) : Nat → Nat := fun i => ix.getD i 0
def rixN (ix : List Nat) (n : Nat) : Nat → Nat := fun i => if i < ix.length then ix.getD i 0 else n + (i - ix.length)
theorem qoj {α β : Type} (f : α → List β) {l l' : List α} (h : l.Perm l') : (l.flatMap f).Perm (l'.flatMap f) := by
 induction h with
 | nil => exact .refl _
 | cons x _ ih => simp only [List.flatMap_cons]; exact ih.append_left _
 | swap x y l => simp only [List.flatMap_cons, ← List.append_assoc]; exact List.perm_append_comm.append_right _
 | trans _ _ h1 h2 => exact h1.trans h2
theorem Meets.frameG {P : Program} {cl : Cal} {args : List SV} {own : List Blk} {accs rest : List Acc} {rs : List (Value × D)} {R : Out → St → Prop} {S : St} {K : Out → St → Prop} {cl' : Cal} {args' : List SV} (h : Meets P cl args ⟨own, accs, rs⟩ R) (ix : List Nat)
  (hcl' : cl' = cl.ren (rixN ix S.own.length)) (hargs' : args' = qaz (rixN ix S.own.length) args) (hac : S.accs.Perm (accs ++ rest))
  (hn : ix.Nodup) (hlen : own.length = ix.length) (hown : ∀ (p : Nat) (k : Blk), own[p]? = some k → ∃ i, ix[p]? = some i ∧ S.own[i]? = some (k.ren (rixN ix S.own.length)) ∧ k.wf ix.length = true)
  (hrs : ∀ p ∈ rs, p ∈ S.reps) (hargs : qr ix.length args = true) (hcl : cl.wf ix.length = true)
  (k : ∀ o s', R o s' → o.wf s'.own.length = true → (∀ q ∈ s'.own, q.wf s'.own.length = true) → ∃ kept new, s'.own = kept ++ new ∧ kept.map Blk.mut = own.map Blk.mut ∧
   K (o.ren (rixN ix S.own.length)) ⟨setAll S.own ix (kept.map (Blk.ren (rixN ix S.own.length))) ++ new.map (Blk.ren (rixN ix S.own.length)), s'.accs ++ rest, S.reps ++ s'.reps⟩) : Meets P cl' args' S K := by
 subst hcl' hargs'
 intro J ℓ w hG hJ
 let r := rixN ix S.own.length
 let bl : Acc → List Nat := fun a => accBlk a.v
 let ℓs : List Base := ix.map (fun i => ℓ.getD i default)
 have hℓslen : ℓs.length = ix.length := by simp [ℓs]
 have hixlt : ∀ (p i : Nat), ix[p]? = some i → i < S.own.length := by
  intro p i hp
  have hp' : p < own.length := by rw [hlen]; exact (List.getElem?_eq_some_iff.1 hp).1
  obtain ⟨i', h1, h2, _⟩ := hown p own[p] (List.getElem?_eq_getElem hp')
  rw [hp] at h1
  cases h1
  exact (List.getElem?_eq_some_iff.1 h2).1
 have rlow : ∀ (p i : Nat), ix[p]? = some i → r p = i := by
  intro p i hp
  have := (List.getElem?_eq_some_iff.1 hp)
  simp only [r, rixN, this.1, if_true, List.getD, hp, Option.getD_some]
 have hr : ∀ i, i < ix.length → ℓ.getD (r i) default = ℓs.getD i default := by
  intro i hi
  rw [rlow i _ (List.getElem?_eq_getElem hi)]
  simp [ℓs, List.getD, List.getElem?_map, List.getElem?_eq_getElem hi]
 have hℓs : ∀ (p : Nat) (b : Base), ℓs[p]? = some b → ∃ i, ix[p]? = some i ∧ ℓ[i]? = some b := by
  intro p b hp
  simp only [ℓs, List.getElem?_map, Option.map_eq_some_iff] at hp
  obtain ⟨i, hi, rfl⟩ := hp
  have hlt : i < ℓ.length := by rw [hG.len]; exact hixlt p i hi
  exact ⟨i, hi, by simp [List.getD, List.getElem?_eq_getElem hlt]⟩
 have hmem : ∀ b, b ∈ mutL ℓs own → b ∈ mutL ℓ S.own := by
  intro b hb
  obtain ⟨p, b', q, h1, h2, h3, h4⟩ := mem_mutL.1 hb
  obtain ⟨i, h5, h6⟩ := hℓs p b' h1
  obtain ⟨i', h7, h8, _⟩ := hown p q h2
  rw [h5] at h7
  cases h7
  exact mem_mutL.2 ⟨i, b', _, h6, h8, by rw [qa0]; exact h3, h4⟩
 -- the blocks that may be written: A own ones, C of the slices that are handed in, Rr of the others
 have hnS0 := hG.nodup
 simp only [mutS] at hnS0
 have hperm := qoj bl hac
 have hnS : (mutL ℓ S.own ++ (accs.flatMap bl ++ rest.flatMap bl)).Nodup := by
  rw [← List.flatMap_append]
  exact (hperm.append_left _).nodup_iff.1 hnS0
 rw [List.nodup_append, List.nodup_append] at hnS
 obtain ⟨hnA, ⟨hnC, hnR, hCR⟩, hACR⟩ := hnS
 have hAC : ∀ x, x ∈ mutL ℓ S.own → x ∈ accs.flatMap bl → False := fun x h1 h2 => hACR x h1 x (List.mem_append.2 (.inl h2)) rfl
 have hAR : ∀ x, x ∈ mutL ℓ S.own → x ∈ rest.flatMap bl → False := fun x h1 h2 => hACR x h1 x (List.mem_append.2 (.inr h2)) rfl
 have hCR' : ∀ x, x ∈ accs.flatMap bl → x ∈ rest.flatMap bl → False := fun x h1 h2 => hCR x h1 x h2 rfl
 have memS : ∀ x, x ∈ mutS ℓ S ↔ x ∈ mutL ℓ S.own ∨ x ∈ accs.flatMap bl ∨ x ∈ rest.flatMap bl := by
  intro x
  simp only [mutS]
  rw [List.mem_append, hperm.mem_iff, List.flatMap_append, List.mem_append]
 have hnd : (mutL ℓs own).Nodup := by
  refine qlr ?_
  intro p q b b' k1 k2 h1 h2 h3 h4 h5 h6 h7
  obtain ⟨i, e1, e2⟩ := hℓs p b h1
  obtain ⟨j, e3, e4⟩ := hℓs q b' h4
  obtain ⟨i', e5, e6, _⟩ := hown p k1 h2
  obtain ⟨j', e7, e8, _⟩ := hown q k2 h5
  rw [e1] at e5; cases e5
  rw [e3] at e7; cases e7
  have := qje hnA i j b b' _ _ e2 e6 (by rw [qa0]; exact h3) e4 e8 (by rw [qa0]; exact h6) h7
  subst this
  have hp1 := (List.getElem?_eq_some_iff.1 e1)
  have hq1 := (List.getElem?_eq_some_iff.1 e3)
  exact (List.getElem_inj hn).1 (hp1.2.trans hq1.2.symm)
 have mems : ∀ x, x ∈ mutS ℓs ⟨own, accs, rs⟩ ↔ x ∈ mutL ℓs own ∨ x ∈ accs.flatMap bl := by
  intro x; simp only [mutS, List.mem_append]; rfl
 have hmemS : ∀ b, b ∈ mutS ℓs ⟨own, accs, rs⟩ → b ∈ mutS ℓ S := fun b hb => by
  rcases (mems b).1 hb with h1 | h1
  ·exact (memS b).2 (.inl (hmem b h1))
  ·exact (memS b).2 (.inr (.inl h1))
 let Js : Nat → Prop := fun b => J b ∧ (b ∈ mutS ℓ S → b ∈ mutS ℓs ⟨own, accs, rs⟩)
 have hJin : ∀ b, Jx J (mutS ℓ S) b → Jx Js (mutS ℓs ⟨own, accs, rs⟩) b := by
  rintro b ⟨h1, h2⟩
  exact ⟨⟨h1, fun hb => (h2 hb).elim⟩, fun hb => h2 (hmemS b hb)⟩
 have hG0 : Good Js ℓs ⟨own, accs, rs⟩ w := by
  refine ⟨by simp [ℓs, hlen], ?_, fun b hb => hG.lt b (hmemS b hb), fun b hb => ⟨hG.memJ b (hmemS b hb), fun _ => hb⟩, ?_, ?_, ?_, ?_⟩
  ·simp only [mutS]
   rw [List.nodup_append]
   exact ⟨hnd, hnC, fun x hx y hy e => hAC x (hmem x hx) (e ▸ hy)⟩
  ·intro q hq
   obtain ⟨p, hp⟩ := List.getElem?_of_mem hq
   rw [hlen]
   exact (hown p q hp).choose_spec.2.2
  ·intro p b q hb hq
   obtain ⟨i, e1, e2⟩ := hℓs p b hb
   obtain ⟨i', e3, e4, e5⟩ := hown p q hq
   rw [e1] at e3; cases e3
   exact (hG.own i b _ e2 e4).unren hr e5 hJin
  ·intro ac hac'
   exact (hG.accs ac (hac.mem_iff.2 (List.mem_append.2 (.inl hac')))).keep (fun x _ hj => ⟨hJin x hj, rfl⟩) (fun _ _ _ => rfl)
  ·intro p hp
   exact (hG.reps p (hrs p hp)).map (fun b _ hb => ⟨hJin b hb, rfl⟩)
 have hJ0 : Fresh Js w := fun b hb => ⟨hJ b hb, fun hm => by have := hG.lt b hm; omega⟩
 obtain ⟨nx, h1, h2⟩ := h Js ℓs w hG0 hJ0
 refine ⟨nx, by rw [qop hr args cl hargs hcl]; exact h1, h2.mono ?_⟩
 rintro e w' ⟨ℓ', o, s', he, hwf, hpre, hx, hG', hf, hR⟩
 obtain ⟨kept, new, hs', hmut, hK⟩ := k o s' hR hwf hG'.wf
 obtain ⟨ℓn, rfl⟩ := hpre
 have hklen : kept.length = ix.length := by have := congrArg List.length hmut; simpa [hlen] using this
 have hnlen : ℓn.length = new.length := by
  have := hG'.len
  simp only [hs', List.length_append, hℓslen, hklen] at this
  omega
 have hslen : s'.own.length = ix.length + new.length := by rw [hs', List.length_append, hklen]
 -- what may be written behind the call
 have hM' : mutS (ℓs ++ ℓn) s' = (mutL ℓs own ++ mutL ℓn new) ++ s'.accs.flatMap bl := by
  simp only [mutS]
  rw [hs', qb6 (by rw [hℓslen, hklen]), qff hmut]
 have hnM := hG'.nodup
 rw [hM', List.nodup_append, List.nodup_append] at hnM
 obtain ⟨⟨_, hnB, hsB⟩, hnC', hsBC⟩ := hnM
 have memM : ∀ x, x ∈ mutS (ℓs ++ ℓn) s' ↔ x ∈ mutL ℓs own ∨ x ∈ mutL ℓn new ∨ x ∈ s'.accs.flatMap bl := by
  intro x; rw [hM', List.mem_append, List.mem_append, or_assoc]
 -- what is new, is new
 have hnew : ∀ x, x ∈ mutL ℓn new ∨ x ∈ s'.accs.flatMap bl → x ∈ accs.flatMap bl ∨ w.heap.size ≤ x := by
  intro x hx'
  have hm : x ∈ mutS (ℓs ++ ℓn) s' := (memM x).2 (.inr hx')
  rcases hf x hm with h3 | h3
  ·rcases (mems x).1 h3 with h4 | h4
   ·exfalso
    rcases hx' with h5 | h5
    ·exact hsB x h4 x h5 rfl
    ·exact hsBC x (List.mem_append.2 (.inl h4)) x h5 rfl
   ·exact .inl h4
  ·exact .inr h3
 have hltS : ∀ x, x ∈ mutS ℓ S → x < w.heap.size := hG.lt
 have hnA' : ∀ x, x ∈ mutL ℓ S.own → x ∈ mutL ℓn new ∨ x ∈ s'.accs.flatMap bl → False := by
  intro x h3 h4
  rcases hnew x h4 with h5 | h5
  ·exact hAC x h3 h5
  ·have := hltS x ((memS x).2 (.inl h3)); omega
 have hnR' : ∀ x, x ∈ rest.flatMap bl → x ∈ mutL ℓn new ∨ x ∈ s'.accs.flatMap bl → False := by
  intro x h3 h4
  rcases hnew x h4 with h5 | h5
  ·exact hCR' x h5 h3
  ·have := hltS x ((memS x).2 (.inr (.inr h3))); omega
 let S' : St := ⟨setAll S.own ix (kept.map (Blk.ren r)) ++ new.map (Blk.ren r), s'.accs ++ rest, S.reps ++ s'.reps⟩
 have hflag : ∀ (p i : Nat) (q : Blk), ix[p]? = some i → (kept.map (Blk.ren r))[p]? = some q → ∃ q', S.own[i]? = some q' ∧ q'.mut = q.mut := by
  intro p i q hp hq
  simp only [List.getElem?_map, Option.map_eq_some_iff] at hq
  obtain ⟨q0, hq0, rfl⟩ := hq
  have hp' : p < own.length := by rw [hlen]; exact (List.getElem?_eq_some_iff.1 hp).1
  obtain ⟨i', e1, e2, _⟩ := hown p own[p] (List.getElem?_eq_getElem hp')
  rw [hp] at e1; cases e1
  refine ⟨_, e2, ?_⟩
  rw [qa0, qa0]
  have := congrArg (fun l => l[p]?) hmut
  simp only [List.getElem?_map, hq0, List.getElem?_eq_getElem hp', Option.map_some, Option.some.injEq] at this
  exact this.symm
 have hmutnew : mutL ℓn (new.map (Blk.ren r)) = mutL ℓn new := by
  refine qff ?_
  simp [qa0]
 have hMf : mutS (ℓ ++ ℓn) S' = (mutL ℓ S.own ++ mutL ℓn new) ++ (s'.accs.flatMap bl ++ rest.flatMap bl) := by
  simp only [mutS, S']
  rw [qb6 (by rw [qbh]; exact hG.len), qff (ql5 ix _ S.own hflag hn), hmutnew, List.flatMap_append]
 have memF : ∀ x, x ∈ mutS (ℓ ++ ℓn) S' ↔ x ∈ mutL ℓ S.own ∨ x ∈ mutL ℓn new ∨ x ∈ s'.accs.flatMap bl ∨ x ∈ rest.flatMap bl := by
  intro x; rw [hMf]; simp only [List.mem_append, or_assoc]
 have hfresh : ∀ x, x ∈ mutS (ℓ ++ ℓn) S' → x ∈ mutS ℓ S ∨ w.heap.size ≤ x := by
  intro x hx'
  rcases (memF x).1 hx' with h3 | h3 | h3 | h3
  ·exact .inl ((memS x).2 (.inl h3))
  ·exact (hnew x (.inl h3)).imp (fun h4 => (memS x).2 (.inr (.inl h4))) id
  ·exact (hnew x (.inr h3)).imp (fun h4 => (memS x).2 (.inr (.inl h4))) id
  ·exact .inl ((memS x).2 (.inr (.inr h3)))
 have hkeepJ : ∀ x, x < w.heap.size → Jx J (mutS ℓ S) x → Jx J (mutS (ℓ ++ ℓn) S') x ∧ w'.heap[x]? = w.heap[x]? :=
  fun x hx' hj => ⟨⟨hj.1, fun hm => by rcases hfresh x hm with h3 | h3; exact hj.2 h3; omega⟩, hx.block x hx' (fun hm => hj.2 (hmemS x hm))⟩
 have hJout : ∀ x, Jx Js (mutS (ℓs ++ ℓn) s') x → Jx J (mutS (ℓ ++ ℓn) S') x := by
  rintro x ⟨⟨h3, h4⟩, h5⟩
  refine ⟨h3, fun hm => ?_⟩
  rcases (memF x).1 hm with h6 | h6 | h6 | h6
  ·rcases (mems x).1 (h4 ((memS x).2 (.inl h6))) with h7 | h7
   ·exact h5 ((memM x).2 (.inl h7))
   ·exact hAC x h6 h7
  ·exact h5 ((memM x).2 (.inr (.inl h6)))
  ·exact h5 ((memM x).2 (.inr (.inr h6)))
  ·rcases (mems x).1 (h4 ((memS x).2 (.inr (.inr h6)))) with h7 | h7
   ·exact hAR x (hmem x h7) h6
   ·exact hCR' x h7 h6
 -- the new numbers
 have hr' : ∀ i, i < s'.own.length → (ℓ ++ ℓn).getD (r i) default = (ℓs ++ ℓn).getD i default := by
  intro i hi
  rcases Nat.lt_or_ge i ix.length with h3 | h3
  ·have hlt : r i < ℓ.length := by rw [rlow i _ (List.getElem?_eq_getElem h3), hG.len]; exact hixlt i _ (List.getElem?_eq_getElem h3)
   rw [qaw hlt, qaw (by rw [hℓslen]; exact h3)]
   exact hr i h3
  ·have e1 : r i = ℓ.length + (i - ix.length) := by simp [r, rixN, Nat.not_lt.2 h3, hG.len]
   rw [e1]
   simp only [List.getD]
   rw [List.getElem?_append_right (by omega), List.getElem?_append_right (by rw [hℓslen]; exact h3), hℓslen, Nat.add_sub_cancel_left]
 have hS'len : S'.own.length = S.own.length + new.length := by simp [S', qbh]
 have hrlt : ∀ i, i < s'.own.length → r i < S'.own.length := by
  intro i hi
  rw [hS'len]
  rcases Nat.lt_or_ge i ix.length with h3 | h3
  ·have := hixlt i _ (List.getElem?_eq_getElem h3)
   rw [rlow i _ (List.getElem?_eq_getElem h3)]; omega
  ·have e1 : r i = S.own.length + (i - ix.length) := by simp [r, rixN, Nat.not_lt.2 h3]
   rw [e1]; rw [hslen] at hi; omega
 have hℓold : ∀ i, i < S.own.length → (ℓ ++ ℓn).getD i default = ℓ.getD i default := fun i hi => qaw (by rw [hG.len]; exact hi)
 have hsub : ∀ x, x ∈ mutS ℓs ⟨own, accs, rs⟩ → x < w.heap.size → x ∈ mutS ℓ S := fun x hm _ => hmemS x hm
 refine ⟨ℓ ++ ℓn, o.ren r, S', ?_, ?_, List.prefix_append _ _, hx.mono hsub, ?_, hfresh, hK⟩
 ·rw [he]
  cases o with
  | ret x => simp only [Out.ren, Out.ending]; rw [qbi hr' x hwf]
  | pan x => simp only [Out.ren, Out.ending]; rw [qbi hr' x hwf]
 ·cases o with
  | ret x => exact SV.wf_ren hrlt x hwf
  | pan x => exact SV.wf_ren hrlt x hwf
 ·constructor
  ·rw [hS'len, List.length_append, hG.len, hnlen]
  ·rw [hMf, List.nodup_append, List.nodup_append, List.nodup_append]
   refine ⟨⟨hnA, hnB, fun x h3 y h4 e => hnA' x h3 (.inl (e ▸ h4))⟩, ⟨hnC', hnR, fun x h3 y h4 e => hnR' x (e ▸ h4) (.inr h3)⟩, ?_⟩
   intro x h3 y h4 e
   subst e
   rcases List.mem_append.1 h3 with h5 | h5
   ·rcases List.mem_append.1 h4 with h6 | h6
    ·exact hnA' x h5 (.inr h6)
    ·exact hAR x h5 h6
   ·rcases List.mem_append.1 h4 with h6 | h6
    ·exact hsBC x (List.mem_append.2 (.inr h5)) x h6 rfl
    ·exact hnR' x h6 (.inl h5)
  ·intro x hx'
   rcases (memF x).1 hx' with h3 | h3 | h3 | h3
   ·exact Nat.lt_of_lt_of_le (hltS x ((memS x).2 (.inl h3))) hx.size
   ·exact hG'.lt x ((memM x).2 (.inr (.inl h3)))
   ·exact hG'.lt x ((memM x).2 (.inr (.inr h3)))
   ·exact Nat.lt_of_lt_of_le (hltS x ((memS x).2 (.inr (.inr h3)))) hx.size
  ·intro x hx'
   rcases (memF x).1 hx' with h3 | h3 | h3 | h3
   ·exact hG.memJ x ((memS x).2 (.inl h3))
   ·exact (hG'.memJ x ((memM x).2 (.inr (.inl h3)))).1
   ·exact (hG'.memJ x ((memM x).2 (.inr (.inr h3)))).1
   ·exact hG.memJ x ((memS x).2 (.inr (.inr h3)))
  ·intro q hq
   rcases List.mem_append.1 hq with hq | hq
   ·obtain ⟨i, hi⟩ := List.getElem?_of_mem hq
    by_cases hix : i ∈ ix
    ·obtain ⟨p, hp⟩ := List.getElem?_of_mem hix
     have hp' : p < kept.length := by rw [hklen]; exact (List.getElem?_eq_some_iff.1 hp).1
     rw [qgg ix _ S.own p i ((kept[p]).ren r) hn hp (by simp [List.getElem?_eq_getElem hp']) (hixlt p i hp)] at hi
     cases hi
     exact Blk.wf_ren hrlt (hG'.wf _ (by rw [hs']; exact List.mem_append.2 (.inl (List.getElem_mem hp'))))
    ·rw [qcn ix _ _ i hix] at hi
     exact Blk.wf_mono (by rw [hS'len]; omega) (qak hG.wf hi)
   ·obtain ⟨q0, hq0, rfl⟩ := List.mem_map.1 hq
    exact Blk.wf_ren hrlt (hG'.wf _ (by rw [hs']; exact List.mem_append.2 (.inr hq0)))
  ·intro i b q hb hq
   simp only [S'] at hq
   rcases Nat.lt_or_ge i S.own.length with hlt | hge
   ·rw [List.getElem?_append_left (by rw [hG.len]; exact hlt)] at hb
    rw [List.getElem?_append_left (by rw [qbh]; exact hlt)] at hq
    by_cases hix : i ∈ ix
    ·obtain ⟨p, hp⟩ := List.getElem?_of_mem hix
     have hp' : p < kept.length := by rw [hklen]; exact (List.getElem?_eq_some_iff.1 hp).1
     rw [qgg ix _ S.own p i ((kept[p]).ren r) hn hp (by simp [List.getElem?_eq_getElem hp']) (hixlt p i hp)] at hq
     cases hq
     have hbp : (ℓs ++ ℓn)[p]? = some b := by
      rw [List.getElem?_append_left (by rw [hℓslen, ← hklen]; exact hp')]
      simp [ℓs, List.getElem?_map, hp, List.getD, hb]
     have hkp : s'.own[p]? = some kept[p] := by rw [hs', List.getElem?_append_left hp', List.getElem?_eq_getElem hp']
     exact (hG'.own p b _ hbp hkp).ren hr' (qak hG'.wf hkp) hJout
    ·rw [qcn ix _ _ i hix] at hq
     have h0 := hG.own i b q hb hq
     have hwq := qak hG.wf hq
     by_cases hqm : q.mut = true
     ·refine h0.keep hwq hℓold (fun x hx' hj => (hkeepJ x hx' hj).1) (fun hlt => hx.block _ hlt (fun hm => ?_))
      have hbA : b.block ∈ mutL ℓ S.own := mem_mutL.2 ⟨i, b, q, hb, hq, hqm, rfl⟩
      rcases (mems _).1 hm with hm | hm
      ·obtain ⟨p, b', q', e1, e2, e3, e4⟩ := mem_mutL.1 hm
       obtain ⟨j, e5, e6⟩ := hℓs p b' e1
       obtain ⟨j', e7, e8, _⟩ := hown p q' e2
       rw [e5] at e7; cases e7
       have := qje hnA i j b b' _ _ hb hq hqm e6 e8 (by rw [qa0]; exact e3) e4.symm
       subst this
       exact hix (List.mem_of_getElem? e5)
      ·exact hAC _ hbA hm
     ·cases q with
      | cells T cs => simp [Blk.mut] at hqm
      | obj oo => simp [Blk.mut] at hqm
      | lp x => simp [Blk.mut] at hqm
      | iter i s n p => simp [Blk.mut] at hqm
      | imm cs =>
       have hj0 := h0
       simp only [BlkOK] at hj0
       exact h0.keep hwq hℓold (fun x hx' hj => (hkeepJ x hx' hj).1) (fun hlt => (hkeepJ _ hlt hj0.1).2)
      | dead => trivial
      | lost => trivial
   ·rw [List.getElem?_append_right (by rw [hG.len]; exact hge)] at hb
    rw [List.getElem?_append_right (by rw [qbh]; exact hge)] at hq
    rw [qbh] at hq
    rw [hG.len] at hb
    simp only [List.getElem?_map, Option.map_eq_some_iff] at hq
    obtain ⟨q0, hq0, rfl⟩ := hq
    have hbp : (ℓs ++ ℓn)[ix.length + (i - S.own.length)]? = some b := by
     rw [List.getElem?_append_right (by rw [hℓslen]; omega), hℓslen, Nat.add_sub_cancel_left]; exact hb
    have hkp : s'.own[ix.length + (i - S.own.length)]? = some q0 := by
     rw [hs', List.getElem?_append_right (by rw [hklen]; omega), hklen, Nat.add_sub_cancel_left]; exact hq0
    exact (hG'.own _ b _ hbp hkp).ren hr' (qak hG'.wf hkp) hJout
  ·intro ac hac'
   rcases List.mem_append.1 hac' with h3 | h3
   ·exact (hG'.accs ac h3).keep (fun x _ hj => ⟨hJout x hj, rfl⟩) (fun _ _ _ => rfl)
   ·refine (hG.accs ac (hac.mem_iff.2 (List.mem_append.2 (.inr h3)))).keep hkeepJ (fun x hxa hlt => hx.block x hlt (fun hm => ?_))
    have hxR : x ∈ rest.flatMap bl := List.mem_flatMap.2 ⟨ac, h3, hxa⟩
    rcases (mems x).1 hm with h4 | h4
    ·exact hAR x (hmem x h4) hxR
    ·exact hCR' x h4 hxR
  ·intro p hp
   rcases List.mem_append.1 hp with h3 | h3
   ·exact (hG.reps p h3).map hkeepJ
   ·exact (hG'.reps p h3).map (fun x _ hj => ⟨hJout x hj, rfl⟩)
mutual
theorem SV.ren_congr {n : Nat} {r r' : Nat → Nat} (h : ∀ i, i < n → r i = r' i) : ∀ (s : SV), s.wf n = true → s.ren r = s.ren r'
 | .v _, _ => rfl
 | .loc i off, hw => by simp only [SV.wf, blt_true] at hw; simp only [SV.ren, h i hw]
 | .lod i off, hw => by simp only [SV.wf, blt_true] at hw; simp only [SV.ren, h i hw]
 | .slo i off n c, hw => by simp only [SV.wf, blt_true] at hw; simp only [SV.ren, h i hw]
 | .fn f first caps, hw => by
  simp only [SV.wf, Bool.and_eq_true] at hw
  simp only [SV.ren, qao h first hw.1, qao h caps hw.2]
 | .agg cs, hw => by simp only [SV.wf] at hw; simp only [SV.ren, qao h cs hw]
 | .tup xs, hw => by simp only [SV.wf] at hw; simp only [SV.ren, qao h xs hw]
 | .mp i, hw => by simp only [SV.wf, blt_true] at hw; simp only [SV.ren, h i hw]
 | .ifc t s, hw => by simp only [SV.wf] at hw; simp only [SV.ren, SV.ren_congr h s hw]
 | .yld i, hw => by simp only [SV.wf, blt_true] at hw; simp only [SV.ren, h i hw]
theorem qao {n : Nat} {r r' : Nat → Nat} (h : ∀ i, i < n → r i = r' i) : ∀ (l : List SV), qr n l = true → qaz r l = qaz r' l
 | [], _ => rfl
 | s :: ss, hw => by
  simp only [qr, Bool.and_eq_true] at hw
  simp only [qaz, SV.ren_congr h s hw.1, qao h ss hw.2]
 end
theorem qh1 {n : Nat} {r r' : Nat → Nat} (h : ∀ i, i < n → r i = r' i) : ∀ {env : Env}, envWf n env = true → envRen r env = envRen r' env
 | [], _ => rfl
 | (t, s) :: e, hw => by
  simp only [envWf] at hw
  split at hw
  ·rename_i hs; simp only [envRen, SV.ren_congr h s hs, qh1 h hw]
  ·cases hw
theorem Blk.ren_congr {n : Nat} {r r' : Nat → Nat} (h : ∀ i, i < n → r i = r' i) {k : Blk} (hw : k.wf n = true) : k.ren r = k.ren r' := by
 cases k <;> simp only [Blk.wf, Blk.ren] at hw ⊢
 ·rw [qao h _ hw]
 ·rw [qao h _ hw]
 ·rw [qh1 h hw]
 ·simp only [blt_true] at hw; rw [h _ hw]
theorem rixN_low (ix : List Nat) (n : Nat) : ∀ i, i < ix.length → rix ix i = rixN ix n i := fun i hi => by simp [rixN, rix, hi]
theorem Meets.frame {P : Program} {cl : Cal} {args : List SV} {own : List Blk} {rs : List (Value × D)} {R : Out → St → Prop} {S : St} {K : Out → St → Prop} {cl' : Cal} {args' : List SV} (h : Meets P cl args ⟨own, [], rs⟩ R) (ix : List Nat)
  (hcl' : cl' = cl.ren (rix ix)) (hargs' : args' = qaz (rix ix) args)
  (hn : ix.Nodup) (hlen : own.length = ix.length) (hown : ∀ (p : Nat) (k : Blk), own[p]? = some k → ∃ i, ix[p]? = some i ∧ S.own[i]? = some (k.ren (rix ix)) ∧ k.wf ix.length = true)
  (hrs : ∀ p ∈ rs, p ∈ S.reps) (hargs : qr ix.length args = true) (hcl : cl.wf ix.length = true)
  (k : ∀ o s', R o s' → s'.accs = [] ∧ s'.own.map Blk.mut = own.map Blk.mut ∧ ∃ ks, s'.own.map (Blk.ren (rix ix)) = ks ∧ forceL (setAll S.own ix ks) (fun own => putOwn S own (fun S1 => addReps S1 s'.reps (fun S' => K (o.ren (rix ix)) S')))) : Meets P cl' args' S K := by
 simp only [qu, qan, qbs] at k
 have hc := rixN_low ix S.own.length
 refine Meets.frameG (rest := S.accs) h ix ?_ ?_ (List.Perm.refl _) hn hlen ?_ hrs hargs hcl ?_
 ·rw [hcl']
  cases cl with
  | val F => simp only [Cal.ren]; rw [SV.ren_congr hc F hcl]
  | meth x name => simp only [Cal.ren]; rw [SV.ren_congr hc x hcl]
 ·rw [hargs', qao hc args hargs]
 ·intro p q hp
  obtain ⟨i, h1, h2, h3⟩ := hown p q hp
  exact ⟨i, h1, by rw [← Blk.ren_congr hc h3]; exact h2, h3⟩
 ·intro o s' hR hwo hws
  obtain ⟨ha, hmut, ks, hks, hK⟩ := k o s' hR
  have hsl : s'.own.length = ix.length := by have := congrArg List.length hmut; simpa [hlen] using this
  refine ⟨s'.own, [], by simp, hmut, ?_⟩
  have e1 : s'.own.map (Blk.ren (rixN ix S.own.length)) = ks := by
   rw [← hks]
   refine List.map_congr_left (fun q hq => ?_)
   exact (Blk.ren_congr hc (by rw [← hsl]; exact hws q hq)).symm
  have e2 : o.ren (rixN ix S.own.length) = o.ren (rix ix) := by
   cases o with
   | ret x => simp only [Out.ren]; rw [SV.ren_congr hc x (by rw [← hsl]; exact hwo)]
   | pan x => simp only [Out.ren]; rw [SV.ren_congr hc x (by rw [← hsl]; exact hwo)]
  rw [e1, e2, ha]
  simpa using hK
end
end Go.Tr
