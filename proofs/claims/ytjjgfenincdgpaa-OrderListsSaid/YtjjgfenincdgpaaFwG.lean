/- One operation of the framework is sound (vcRun_sound), and so are a region's operations in the text's order (vcOps_sound). Condition: the state describes the world (Inv). -/
import Derived.Test.YtjjgfenincdgpaaFwF
namespace Go.Tr
open Go
set_option linter.unusedSimpArgs false

section
variable {P : Program} {tt : Tab} {c : Cx} {ℓ : List Base} {kn al : Atoms} {gen : Gen} {env : Env} {S : St} {a : Act} {w : World}

set_option maxHeartbeats 1000000 in
theorem vcRun_sound {ro : Option Nat} {o : Oper} {K Kp : SV → St → Prop} {next : Act → World → Prop} {Q : Exit → Act → World → Prop} (hT : TTOK P tt) (hI : Inv c ℓ kn gen env S a w) (hal : Holds a al) (hK : Met c ℓ S a w o K next) (hKp : MetP c ℓ S a w Kp Q)
    (h : vcRun P tt kn (getter gen env al) o S K Kp) : o.wpIn (fen ro) 0 P a w next Q := by
  refine up_wp (fun cc hcc => ?_) ?_
  · unfold vcRun at h
    simp only [hcc, stepPure] at h
  have C := hI.pctx (P := P) (tt := tt) (al := al) hT hal
  unfold vcRun at h
  split at h
  · rename_i s hs
    have := stepPure_sound C o hs
    exact wp_of_value this.2 (hK s ℓ S w (Stepped.refl hI.good) this.1 h)
  · split at h
    · rename_i t x ho
      split at h
      · rename_i s hs
        split at h
        · rename_i hp
          rw [forceL_eq, putOwn_eq] at h
          have hx := C.get0 _ _ hs
          have hst := alloc_stepped hI t (cellsOf s) (wf_cellsOf hx.1)
          have hr := run_execOp_box (P := P) (a := a) (w := w) ho
          rw [hx.2, den_cells_of_plain ℓ hp] at hr
          refine wp_of_value hr ?_
          have := hK (.loc S.own.length 0) _ _ _ hst (by simpa using loc_wf _) h
          simp only [SV.den] at this
          rw [← hI.good.len, getD_new] at this
          exact this
        · exact h.elim
      · exact h.elim
    · rename_i t ho
      split at h
      · rename_i k hk
        rw [forceL_eq, forceL_eq, putOwn_eq] at h
        obtain ⟨z, hz, hzc⟩ := zeros_run hT hk
        have hst := alloc_stepped hI t (k.zeros.map SV.v) (wfL_map_v _ _)
        rw [denL_map_v] at hst
        have hr := run_execOp_alloc (P := P) (a := a) (w := w) ho (hz w)
        rw [hzc] at hr
        refine wp_of_value hr ?_
        have := hK (.loc S.own.length 0) _ _ _ hst (by simpa using loc_wf _) h
        simp only [SV.den] at this
        rw [← hI.good.len, getD_new] at this
        exact this
      · exact h.elim
    · rename_i t ad x ho
      split at h
      · rename_i i off s hadr hs
        split at h
        · rename_i T cs k hk ht
          split at h
          · rename_i hb
            rw [forceL_eq, forceL_eq, putOwn_eq] at h
            simp only [Bool.and_eq_true] at hb
            obtain ⟨⟨⟨hp, h1⟩, h2⟩, h3⟩ := hb
            have h2 := Nat.eq_of_beq_eq_true h2
            have h3 := Nat.le_of_ble_eq_true h3
            have hx := C.get0 _ _ hs
            have hy := C.get0 _ _ hadr
            have hk' : S.own[i]? = some (.cells T cs) := by rw [← nth_eq]; exact hk
            have hwk := wf_of_mem hI.good.wf hk'
            obtain ⟨b, hbl, hok⟩ := own_at hI.good hk'
            simp only [BlkOK] at hok
            have hlen : (SV.denL ℓ cs).toArray.size = cs.length := by simp [SV.denL_length]
            have hst := run_storeCells_at P b.block off T (SV.denL ℓ (cellsOf s)) 0 (SV.denL ℓ cs).toArray w hok.2 (by rw [hlen, SV.denL_length]; omega) (allOne_spec h1)
            have hrow : (w.setRow b.block (SV.denL ℓ (setRange cs off (cellsOf s))).toArray).heap[b.block]? = some (.cells (SV.denL ℓ (setRange cs off (cellsOf s))).toArray T (0, 0)) := setRow_heap w _ _ _ _ _ hok.2
            have hsz : (w.setRow b.block (SV.denL ℓ (setRange cs off (cellsOf s))).toArray).heap.size = w.heap.size := by simp [World.setRow]
            have hoth : ∀ y, y ≠ b.block → (w.setRow b.block (SV.denL ℓ (setRange cs off (cellsOf s))).toArray).heap[y]? = w.heap[y]? := fun y hy => setRow_other w _ _ _ hy
            have hwf' : SV.wfL S.own.length (setRange cs off (cellsOf s)) = true := wfL_setRange hwk (wf_cellsOf hx.1)
            have hgood := hI.good.update (k' := .cells T (setRange cs off (cellsOf s))) hk' hbl rfl rfl hwf' (Nat.le_of_eq hsz.symm) (fun y _ hy => hoth y hy) ⟨hok.1, hrow⟩
            have hbm : b.block ∈ mutS ℓ S := by simp only [mutS]; exact List.mem_append.2 (.inl (mem_mutL.2 ⟨i, b, _, hbl, hk', rfl, rfl⟩))
            have hmut : mutS ℓ ⟨S.own.set i (.cells T (setRange cs off (cellsOf s))), S.accs, S.reps⟩ = mutS ℓ S := by
              simp only [mutS]; rw [mutL_set (k' := Blk.cells T (setRange cs off (cellsOf s))) hk' rfl]
            have hstep : Stepped (c.Ja a) ℓ S w ℓ ⟨S.own.set i (.cells T (setRange cs off (cellsOf s))), S.accs, S.reps⟩ (w.setRow b.block (SV.denL ℓ (setRange cs off (cellsOf s))).toArray) :=
              ⟨List.prefix_refl _, ⟨rfl, rfl, Nat.le_of_eq hsz.symm, fun y _ hy => hoth y (fun e => hy (e ▸ hbm))⟩, hgood, fun y hy => .inl (by rw [hmut] at hy; exact hy)⟩
            have hfin := hK undefS _ _ _ hstep (by rfl) h
            unfold upOp
            have hrun : (execOp a.eval o).run P w = .ok .skip (w.setRow b.block (SV.denL ℓ (setRange cs off (cellsOf s))).toArray) := by
              unfold execOp
              rw [ho]
              have hd : ℓ.getD i default = b := by simp [List.getD, hbl]
              have hcells : ((a.eval x).cells.size ≠ k.zeros.length) = False := by
                rw [hx.2, den_cells_of_plain ℓ hp]; simp [SV.denL_length, h2]
              have hst' : (storeCells ⟨b.block, off, none⟩ (a.eval x).cells.toList).run P w = .ok () (w.setRow b.block (SV.denL ℓ (setRange cs off (cellsOf s))).toArray) := by
                rw [hx.2, den_cells_of_plain ℓ hp, hst, setRange_denL]
                simp [setRange, List.append_assoc]
              simp only [Instr.storeAt, hy.2, SV.den, hd, hok.1, Nat.zero_add, Instr.sureAddr, pure_bind, storeVar, Sem.run_bind, size_run hT ht, Result.andThen_ok, hcells, if_false, hst', Sem.run_pure]
            rw [hrun]
            exact hfin
          · exact h.elim
        · exact h.elim
      · rename_i sx sy _ hx hy
        have hx' := C.get0 _ _ hx
        have hy' := C.get0 _ _ hy
        refine wp_of_semU hI ?_ hK h
        unfold execOp; rw [ho]; simp only [hx'.2, hy'.2]
      · exact h.elim
    · rename_i cl ho
      split at h
      · rename_i f hc
        split at h
        · rename_i F args hF hargs
          have hF' := C.get0 _ _ hF
          have ha' := getAll_sound C _ _ hargs
          refine wp_of_spec (cl := .val F) (args := args) hI ?_ hK hKp h
          unfold execOp
          rw [ho]
          simp only [resolve, hc, Cal.sem, hF'.2, args_eq ha'.2]
        · exact h.elim
      · rename_i r m hc
        split at h
        · rename_i F args hF hargs
          have hF' := C.get0 _ _ hF
          have ha' := getAll_sound C _ _ hargs
          refine wp_of_spec (cl := .meth F m) (args := args) hI ?_ hK hKp h
          unfold execOp
          rw [ho]
          simp only [resolve, hc, Cal.sem, hF'.2, args_eq ha'.2, pure_bind]
        · exact h.elim
      · rename_i hc
        split at h
        · rename_i args hargs
          have ha' := getAll_sound C _ _ hargs
          refine wp_of_sem hI ?_ hK h
          unfold execOp
          rw [ho]
          simp only [resolve, hc, pure_bind, invoke, builtin, args_eq ha'.2]
        · exact h.elim
      · rename_i hc
        split at h
        · rename_i args hargs
          have ha' := getAll_sound C _ _ hargs
          refine wp_of_pure hI ?_ hK h
          unfold execOp
          rw [ho]
          simp only [resolve, hc, pure_bind, invoke, builtin, args_eq ha'.2]
        · exact h.elim
      · rename_i hc
        split at h
        · rename_i args hargs
          have ha' := getAll_sound C _ _ hargs
          refine wp_of_pure hI ?_ hK h
          unfold execOp
          rw [ho]
          simp only [resolve, hc, pure_bind, invoke, builtin, args_eq ha'.2]
        · exact h.elim
      · rename_i hc
        split at h
        · rename_i args hargs
          have ha' := getAll_sound C _ _ hargs
          refine wp_of_sem hI ?_ hK h
          unfold execOp
          rw [ho]
          simp only [resolve, hc, pure_bind, invoke, builtin, args_eq ha'.2]
        · exact h.elim
      · rename_i hc
        split at h
        · rename_i args hargs
          have ha' := getAll_sound C _ _ hargs
          refine wp_of_pure hI ?_ hK h
          unfold execOp
          rw [ho]
          simp only [resolve, hc, pure_bind, invoke, builtin, args_eq ha'.2]
        · exact h.elim
      · rename_i hc
        split at h
        · rename_i args hargs
          have ha' := getAll_sound C _ _ hargs
          refine wp_of_sem hI ?_ hK h
          unfold execOp
          rw [ho]
          simp only [resolve, hc, pure_bind, invoke, builtin, args_eq ha'.2]
        · exact h.elim
      · rename_i hc
        split at h
        · rename_i args hargs
          have ha' := getAll_sound C _ _ hargs
          refine wp_of_sem hI ?_ hK h
          unfold execOp
          rw [ho]
          simp only [resolve, hc, pure_bind, invoke, builtin, args_eq ha'.2]
        · exact h.elim
      · exact h.elim
    · rename_i t x i ho
      split at h
      · rename_i sx sy hx hy
        have hx' := C.get0 _ _ hx
        have hy' := C.get0 _ _ hy
        refine wp_of_pure hI ?_ hK h
        unfold execOp; rw [ho]; simp only [hx'.2, hy'.2]
      · exact h.elim
    · rename_i t x i ho
      split at h
      · rename_i sx sy hx hy
        have hx' := C.get0 _ _ hx
        have hy' := C.get0 _ _ hy
        refine wp_of_pure hI ?_ hK h
        unfold execOp; rw [ho]; simp only [hx'.2, hy'.2]
      · exact h.elim
    · rename_i t x f ho
      split at h
      · rename_i sx hx
        have hx' := C.get0 _ _ hx
        refine wp_of_pure hI ?_ hK h
        unfold execOp; rw [ho]; simp only [hx'.2]
      · exact h.elim
    · rename_i t x ho
      split at h
      · rename_i sx hx
        have hx' := C.get0 _ _ hx
        refine wp_of_sem hI ?_ hK h
        unfold execOp; rw [ho]; simp only [hx'.2]
      · exact h.elim
    · rename_i t x lo hi mx ho
      split at h
      · rename_i sx sl sh sm hx hl hh hm
        have hx' := C.get0 _ _ hx
        have hl' := mapOpt_sound (C := C) hl
        have hh' := mapOpt_sound (C := C) hh
        have hm' := mapOpt_sound (C := C) hm
        refine wp_of_pure hI ?_ hK h
        unfold execOp; rw [ho]; simp only [hx'.2, hl', hh', hm']
      · exact h.elim
    · rename_i t len parts ho
      split at h
      · rename_i l hl
        have hl' := getParts_sound (C := C) _ _ hl
        have hp : (parts.map fun (i, x) => (i, a.eval x)) = (denParts ℓ l).toArray := by
          rw [← Array.toList_inj, Array.toList_map, hl']
        refine wp_of_sem hI ?_ hK h
        unfold execOp; rw [ho]; simp only [hp]
      · exact h.elim
    · rename_i t l c ho
      split at h
      · rename_i sx sy hx hy
        have hx' := C.get0 _ _ hx
        have hy' := C.get0 _ _ hy
        refine wp_of_sem hI ?_ hK h
        unfold execOp; rw [ho]; simp only [hx'.2, hy'.2]
      · exact h.elim
    · rename_i t r ho
      split at h
      · rename_i sr hr
        have hr' := mapOpt_sound (C := C) hr
        refine wp_of_sem hI ?_ hK h
        unfold execOp; rw [ho]; simp only [hr']
      · exact h.elim
    · rename_i t m k x ho
      split at h
      · rename_i sx sy sz hx hy hz
        have hx' := C.get0 _ _ hx
        have hy' := C.get0 _ _ hy
        have hz' := C.get0 _ _ hz
        refine wp_of_semU hI ?_ hK h
        unfold execOp; rw [ho]; simp only [hx'.2, hy'.2, hz'.2]
      · exact h.elim
    · rename_i t m k x ho
      split at h
      · rename_i sx sy sz hx hy hz
        have hx' := C.get0 _ _ hx
        have hy' := C.get0 _ _ hy
        have hz' := C.get0 _ _ hz
        refine wp_of_semU hI ?_ hK h
        unfold execOp; rw [ho]; simp only [hx'.2, hy'.2, hz'.2]
      · exact h.elim
    · rename_i t x ix ok ho
      split at h
      · rename_i sx sy hx hy
        have hx' := C.get0 _ _ hx
        have hy' := C.get0 _ _ hy
        refine wp_of_sem hI ?_ hK h
        unfold execOp; rw [ho]; simp only [hx'.2, hy'.2]
      · exact h.elim
    · rename_i t m k ho
      split at h
      · rename_i sx sy hx hy
        have hx' := C.get0 _ _ hx
        have hy' := C.get0 _ _ hy
        refine wp_of_sem hI ?_ hK h
        unfold execOp; rw [ho]; simp only [hx'.2, hy'.2]
      · exact h.elim
    · rename_i t m k x ho
      split at h
      · rename_i sx sy sz hx hy hz
        have hx' := C.get0 _ _ hx
        have hy' := C.get0 _ _ hy
        have hz' := C.get0 _ _ hz
        refine wp_of_semU hI ?_ hK h
        unfold execOp; rw [ho]; simp only [hx'.2, hy'.2, hz'.2]
      · exact h.elim
    · rename_i t x ho
      split at h
      · rename_i sx hx
        have hx' := C.get0 _ _ hx
        refine wp_of_sem hI ?_ hK h
        unfold execOp; rw [ho]; simp only [hx'.2]
      · exact h.elim
    · rename_i it isStr ho
      split at h
      · rename_i sx hx
        have hx' := C.get0 _ _ hx
        refine wp_of_sem hI ?_ hK h
        unfold execOp; rw [ho]; simp only [hx'.2]
      · exact h.elim
    · rename_i it ho
      split at h
      · rename_i sx hx
        have hx' := C.get0 _ _ hx
        refine wp_of_sem hI ?_ hK h
        unfold execOp; rw [ho]; simp only [hx'.2]
      · exact h.elim
    · rename_i op t x y ty ho
      split at h
      · rename_i sx sy hx hy
        have hx' := C.get0 _ _ hx
        have hy' := C.get0 _ _ hy
        refine wp_of_pure hI ?_ hK h
        unfold execOp; rw [ho]; simp only [hx'.2, hy'.2]
      · exact h.elim
    · rename_i op t x ho
      split at h
      · rename_i sx hx
        have hx' := C.get0 _ _ hx
        refine wp_of_pure hI ?_ hK h
        unfold execOp; rw [ho]; simp only [hx'.2]
      · exact h.elim
    · rename_i src dst x ho
      split at h
      · rename_i sx hx
        have hx' := C.get0 _ _ hx
        refine wp_of_sem hI ?_ hK h
        unfold execOp; rw [ho]; simp only [hx'.2]
      · exact h.elim
    · rename_i t x ho
      split at h
      · rename_i sx hx
        have hx' := C.get0 _ _ hx
        refine wp_of_pure hI ?_ hK h
        unfold execOp; rw [ho]; simp only [hx'.2]
      · exact h.elim
    · rename_i x t as ok ho
      split at h
      · rename_i sx hx
        have hx' := C.get0 _ _ hx
        refine wp_of_pure hI ?_ hK h
        unfold execOp; rw [ho]; simp only [hx'.2]
      · exact h.elim
    · rename_i t parts ho
      split at h
      · rename_i l hl
        have hl' := getParts_sound (C := C) _ _ hl
        have hp : (parts.map fun (i, x) => (i, a.eval x)) = (denParts ℓ l).toArray := by
          rw [← Array.toList_inj, Array.toList_map, hl']
        refine wp_of_pure hI ?_ hK h
        unfold execOp; rw [ho]; simp only [hp]
      · exact h.elim
    · rename_i x ho
      split at h
      · rename_i t s hx
        have hx' := C.get0 _ _ hx
        unfold upOp
        have hr : (execOp a.eval o).run P w = .halt (.panic ((SV.ifc t s).den ℓ)) w := by
          unfold execOp; rw [ho]; simp [hx'.2, SV.den, Instr.panic]
        rw [hr]
        exact hKp (.ifc t s) ℓ S w (Stepped.refl hI.good) hx'.1 h
      · exact h.elim
    · exact h.elim

end
end Go.Tr
