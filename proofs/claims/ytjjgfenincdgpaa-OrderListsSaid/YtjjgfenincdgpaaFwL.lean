/- Code is sound (vcC_sound); a contract out of a function's body (spec_of_body) and out of a round of a loop over a function (spec_of_round). Condition: the type table is the program's (TTOK); the trees fit the regions that draw. -/
import Derived.Test.YtjjgfenincdgpaaFwK
namespace Go.Tr
open Go
set_option linter.unusedSimpArgs false

section
variable {P : Program} {tt : Tab} {c : Cx} {ℓ : List Base} {kn : Atoms} {gen : Gen} {env : Env} {S : St} {a : Act} {w : World}

/-- Other blocks may be used, the ones in use among them. -/
theorem Good.toJ {J J' : Nat → Prop} (h : Good J ℓ S w) (hJ : ∀ b, b < w.heap.size → J b → J' b) : Good J' ℓ S w := by
  have hx : ∀ x, x < w.heap.size → Jx J (mutS ℓ S) x → Jx J' (mutS ℓ S) x := fun x hx hj => ⟨hJ x hx hj.1, hj.2⟩
  refine ⟨h.len, h.nodup, h.lt, fun b hb => hJ b (h.lt b hb) (h.memJ b hb), h.wf, ?_, ?_, ?_⟩
  · exact fun i b k hi hk => (h.own i b k hi hk).keep (wf_of_mem h.wf hk) (fun _ _ => rfl) hx (fun _ => rfl)
  · exact fun ac hac => (h.accs ac hac).keep (fun x hlt hj => ⟨hx x hlt hj, rfl⟩) (fun _ _ _ => rfl)
  · exact fun p hp => (h.reps p hp).map (fun x hlt hj => ⟨hx x hlt hj, rfl⟩)

/-- A world that has kept all blocks that may be used. -/
theorem Good.kept {J J' : Nat → Prop} {w' : World} (h : Good J ℓ S w) (hJ : ∀ b, J b → J' b) (hsz : w.heap.size ≤ w'.heap.size) (hw : ∀ b, b < w.heap.size → J b → w'.heap[b]? = w.heap[b]?) : Good J' ℓ S w' := by
  have hx : ∀ x, x < w.heap.size → Jx J (mutS ℓ S) x → Jx J' (mutS ℓ S) x ∧ w'.heap[x]? = w.heap[x]? := fun x hx hj => ⟨⟨hJ x hj.1, hj.2⟩, hw x hx hj.1⟩
  refine ⟨h.len, h.nodup, fun b hb => Nat.lt_of_lt_of_le (h.lt b hb) hsz, fun b hb => hJ b (h.memJ b hb), h.wf, ?_, ?_, ?_⟩
  · intro i b k hi hk
    have h0 := h.own i b k hi hk
    have own : k.mut = true → b.block < w.heap.size → w'.heap[b.block]? = w.heap[b.block]? := fun hm hlt => by
      refine hw _ hlt (h.memJ _ ?_)
      simp only [mutS]
      exact List.mem_append.2 (.inl (mem_mutL.2 ⟨i, b, k, hi, hk, hm, rfl⟩))
    have hwk := wf_of_mem h.wf hk
    cases k with
    | cells T cs => exact h0.keep hwk (fun _ _ => rfl) (fun x hlt hj => (hx x hlt hj).1) (own rfl)
    | obj o => exact h0.keep hwk (fun _ _ => rfl) (fun x hlt hj => (hx x hlt hj).1) (own rfl)
    | lp x => exact h0.keep hwk (fun _ _ => rfl) (fun x hlt hj => (hx x hlt hj).1) (own rfl)
    | iter i s n p => exact h0.keep hwk (fun _ _ => rfl) (fun x hlt hj => (hx x hlt hj).1) (own rfl)
    | imm cs =>
      have h1 := h0
      simp only [BlkOK] at h1
      exact h0.keep hwk (fun _ _ => rfl) (fun x hlt hj => (hx x hlt hj).1) (fun hlt => hw _ hlt h1.1.1)
    | dead => trivial
  · intro ac hac
    refine (h.accs ac hac).keep hx (fun x hxa hlt => hw x hlt (h.memJ x ?_))
    simp only [mutS]
    exact List.mem_append.2 (.inr (List.mem_flatMap.2 ⟨ac, hac, hxa⟩))
  · exact fun p hp => (h.reps p hp).map hx

/-- The block for the rounds' deferred calls is laid, and its mark. -/
theorem Inv.mark (hI : Inv c ℓ kn gen env S a w) : Inv c ℓ kn gen env S { a with defers := markD w.heap.size :: a.defers } (w.alloc (.deferred (some []))) := by
  have hold : ∀ x, x < w.heap.size → (w.alloc (.deferred (some []))).heap[x]? = w.heap[x]? := fun x hx => by
    show (w.heap.push _)[x]? = _
    rw [Array.getElem?_push, if_neg (by omega)]
  have hsz : w.heap.size ≤ (w.alloc (.deferred (some []))).heap.size := by simp
  have hmarks : marksOf (markD w.heap.size :: a.defers) = w.heap.size :: marksOf a.defers := rfl
  refine ⟨hI.size, ⟨?_, ?_, ?_⟩, hI.env, hI.gen, hI.kn, ?_, hI.fresh0, hI.pre, ?_, hI.fresh⟩
  · rw [hmarks, List.map_cons, ← hI.defers.eq]
  · rw [hmarks, List.nodup_cons]
    exact ⟨fun hm => by have := lt_of_get (hI.defers.blk _ hm).2; omega, hI.defers.nodup⟩
  · intro r hr
    rw [hmarks] at hr
    rcases List.mem_cons.1 hr with h1 | h1
    · subst h1; exact ⟨hI.ext.size, World.alloc_heap_new w _⟩
    · exact ⟨(hI.defers.blk r h1).1, (hold r (lt_of_get (hI.defers.blk r h1).2)).trans (hI.defers.blk r h1).2⟩
  · have h1 : Good (c.Ja { a with defers := markD w.heap.size :: a.defers }) ℓ S w := hI.good.toJ (fun b hb hj => ⟨hj.1, fun hm => by
      rw [hmarks] at hm
      rcases List.mem_cons.1 hm with h2 | h2
      · omega
      · exact hj.2 h2⟩)
    exact h1.kept (fun _ h => h) hsz (fun b hb _ => hold b hb)
  · exact hI.ext.then (m' := []) ⟨rfl, rfl, hsz, fun b hb _ => hold b hb⟩ (by simp)

/-- The record of a loop is laid. -/
theorem Inv.record (hI : Inv c ℓ kn gen env S a w) {N : Nat} (hN : c.N = N) {env' : Env} (hle : envLe env env') (hwf : envWf S.own.length env' = true) (fn : FuncId) (ps : Array Nat) (assign body : Code) (ds : Nat) :
    Stepped (c.Ja a) ℓ S w (ℓ ++ [⟨w.heap.size, 0⟩]) ⟨S.own ++ [.lp ⟨N, env', ps, assign, body, .ready, none⟩], S.accs, S.reps⟩ (w.alloc (.loop { state := .ready, pending := none, fn, tmps := a.tmps, params := ps, assign, body, defers := ds })) := by
  have hold : ∀ x, x < w.heap.size → (w.alloc (.loop { state := .ready, pending := none, fn, tmps := a.tmps, params := ps, assign, body, defers := ds })).heap[x]? = w.heap[x]? := fun x hx => by
    show (w.heap.push _)[x]? = _
    rw [Array.getElem?_push, if_neg (by omega)]
  have hm := mutS_push hI.good.len (S := S) ⟨w.heap.size, 0⟩ (.lp ⟨N, env', ps, assign, body, .ready, none⟩)
  refine ⟨List.prefix_append _ _, ⟨rfl, rfl, by simp, fun x hx _ => hold x hx⟩, ?_, ?_⟩
  · refine hI.good.push ⟨w.heap.size, 0⟩ (.lp _) hwf (fun _ => ⟨Nat.le_refl _, by simp, hI.freshJ _ (Nat.le_refl _)⟩) (by simp) hold ⟨rfl, _, World.alloc_heap_new w _, rfl, rfl, rfl, rfl, rfl, ?_, ?_⟩
    · exact hI.size.trans hN
    · exact fun t s hs => (hI.env t s (envLe_spec hle t s hs)).2
  · intro x hx
    rcases (hm x).1 hx with h1 | ⟨_, h1⟩
    · exact .inl h1
    · subst h1; exact .inr (Nat.le_refl _)

/-- The record of a loop is written. -/
theorem Inv.rewrite (hI : Inv c ℓ kn gen env S a w) {n : Nat} {x : LoopX} (hx : nth S.own n = some (.lp x)) : ∃ b r, ℓ[n]? = some b ∧ w.heap[b.block]? = some (.loop r) ∧ r.state = x.state ∧ r.pending = x.pend ∧
    ∀ st pd, Stepped (c.Ja a) ℓ S w ℓ ⟨S.own.set n (.lp ⟨x.N, x.env, x.ps, x.assign, x.body, st, pd⟩), S.accs, S.reps⟩ (w.putObj b.block (.loop { r with state := st, pending := pd })) := by
  have hk : S.own[n]? = some (.lp x) := by rw [← nth_eq]; exact hx
  obtain ⟨b, hb, hok⟩ := own_at hI.good hk
  have hwf := wf_of_mem hI.good.wf hk
  simp only [BlkOK] at hok
  obtain ⟨h0, r, hr, h1, h2, h3, h4, h5, h6, h7⟩ := hok
  refine ⟨b, r, hb, hr, h1, h2, fun st pd => ?_⟩
  have hlt := lt_of_get hr
  have hoth : ∀ y, y ≠ b.block → (w.putObj b.block (.loop { r with state := st, pending := pd })).heap[y]? = w.heap[y]? := fun y hy => World.putObj_heap_other hy
  have hbm : b.block ∈ mutS ℓ S := by simp only [mutS]; exact List.mem_append.2 (.inl (mem_mutL.2 ⟨n, b, _, hb, hk, rfl, rfl⟩))
  have hmut : mutS ℓ ⟨S.own.set n (.lp ⟨x.N, x.env, x.ps, x.assign, x.body, st, pd⟩), S.accs, S.reps⟩ = mutS ℓ S := by
    simp only [mutS]; rw [mutL_set (k' := Blk.lp ⟨x.N, x.env, x.ps, x.assign, x.body, st, pd⟩) hk rfl]
  refine ⟨List.prefix_refl _, ⟨rfl, rfl, by simp, fun y _ hy => hoth y (fun e => hy (e ▸ hbm))⟩, ?_, fun y hy => .inl (by rw [hmut] at hy; exact hy)⟩
  exact hI.good.update (k' := .lp ⟨x.N, x.env, x.ps, x.assign, x.body, st, pd⟩) hk hb rfl rfl hwf (by simp) (fun y _ hy => hoth y hy) ⟨h0, _, World.putObj_heap_same hlt, rfl, rfl, h3, h4, h5, h6, h7⟩

/-- The marks' blocks are shut, one after the other; then the function leaves. -/
structure Shut (rs : List Nat) (w w' : World) : Prop where
  os : w'.os = w.os
  output : w'.output = w.output
  size : w'.heap.size = w.heap.size
  same : ∀ b, b ∉ rs → w'.heap[b]? = w.heap[b]?

theorem leaves_marks {fn : Func} {tmps : Array Value} {R : Ending → World → Prop} {u : FrameMode} (hu : u ≠ .run) {w0 : World} : ∀ (ds : List Deferred) (w : World), Marks w0 ds w → (∀ w', Shut (marksOf ds) w w' → LeavesIn (fen none) 0 P fn tmps R [] u w') → LeavesInM (fen none) 0 P fn tmps R ds u w
  | [], w, _, h => h w ⟨rfl, rfl, rfl, fun _ _ => rfl⟩
  | d :: ds, w, hm, h => by
    have heq := hm.eq
    cases ht : d.target with
    | collected r =>
      have hms : marksOf (d :: ds) = r :: marksOf ds := by simp only [marksOf, ht]
      rw [hms] at heq
      simp only [List.map_cons, List.cons.injEq] at heq
      have hr := (hm.blk r (by rw [hms]; simp)).2
      have hn := hm.nodup
      rw [hms, List.nodup_cons] at hn
      refine ⟨hu, .inl ⟨r, _, ht, run_takeDeferred hr, leaves_marks (w0 := w0) hu ds _ ⟨heq.2, hn.2, fun q hq => ?_⟩ ?_⟩⟩
      · have hq' := hm.blk q (by rw [hms]; simp [hq])
        exact ⟨hq'.1, (World.putObj_heap_other (fun e => hn.1 (by rw [← e]; exact hq))).trans hq'.2⟩
      · intro w' hs
        refine h w' ⟨hs.os, hs.output, hs.size.trans (by simp), fun b hb => ?_⟩
        rw [hms] at hb
        simp only [List.mem_cons, not_or] at hb
        rw [hs.same b hb.2, World.putObj_heap_other hb.1]
    | _ =>
      exfalso
      have hms : marksOf (d :: ds) = marksOf ds := by simp only [marksOf, ht]
      have hl := congrArg List.length heq
      rw [hms, List.length_cons, List.length_map] at hl
      have : ∀ l : List Deferred, (marksOf l).length ≤ l.length := by
        intro l
        induction l with
        | nil => simp [marksOf]
        | cons x l ih => simp only [marksOf]; split <;> simp only [List.length_cons] <;> omega
      have := this ds
      omega

/-- Behind the marks. -/
theorem Inv.shut (hI : Inv c ℓ kn gen env S a w) {w' : World} (hs : Shut (marksOf a.defers) w w') : Inv c ℓ kn gen env S { a with defers := [] } w' := by
  refine ⟨hI.size, ⟨rfl, by simp [marksOf], by simp [marksOf]⟩, hI.env, hI.gen, hI.kn, ?_, hI.fresh0, hI.pre, ?_, hI.fresh⟩
  · exact hI.good.kept (fun b hb => ⟨hb.1, by simp [marksOf]⟩) (Nat.le_of_eq hs.size.symm) (fun b _ hj => hs.same b hj.2)
  · refine ⟨hs.os.trans hI.ext.os, hs.output.trans hI.ext.output, Nat.le_trans hI.ext.size (Nat.le_of_eq hs.size.symm), fun b hb hm => ?_⟩
    rw [hs.same b (fun hr => by have := (hI.defers.blk b hr).1; omega)]
    exact hI.ext.block b hb hm

theorem vcC_sound {N m : Nat} {dt : Draws} (hN : c.N = N) (hm : c.ℓ0.length = m) (hT : TTOK P tt)
    (hrx : ∀ i, c.rx = some i → i < m) (hD : P.follows .mixedOrders = true) :
    ∀ (code : Code), DrawsOK dt code = true → ∀ (cuts : List Nat) (K : X → Env → St → Prop) (ℓ : List Base) (env : Env) (S : St) (a : Act) (w : World), Inv c ℓ [] [] env S a w → vcC P tt N m c.rx dt code cuts K env S → code.wpIn (fen c.ro) 0 P (QK c K) a w := by
  have hops : ∀ K, OpsPost c (fun env S => K .norm env S) (fun v S => K (.pan v) [] S) (QK c K) := fun K =>
    ⟨fun ℓ kn gen env S a w hI hk => ⟨ℓ, env, S, hI.bare, hk⟩, fun ℓ S a w v hI hv hk => ⟨ℓ, S, v, hI, hv, rfl, hk⟩⟩
  intro code
  induction code with
  | skip => intro _ cuts K ℓ env S a w hI h; exact wpIn_skip ⟨ℓ, env, S, hI, h⟩
  | label l => intro _ cuts K ℓ env S a w hI h; exact wpIn_label ⟨ℓ, env, S, hI, h⟩
  | region id ops draw =>
    intro hdr cuts K ℓ env S a w hI h
    simp only [vcC_region, vcRegion] at h
    split at h
    · exact wp_ops_region (vcOps_sound hN hT (hops K) ops.toList 0 (by simp) ℓ [] [] env S a w hI h)
    · split at h
      · rename_i t U ht
        simp only [DrawsOK, ht] at hdr
        exact draw_sound hD hN hT hdr (noFrame_QK K) (hops K) hI h
      · exact h.elim
  | seq x y ihx ihy =>
    intro hdr cuts K ℓ env S a w hI h
    simp only [DrawsOK, Bool.and_eq_true] at hdr
    simp only [vcC_seq, vcSeq] at h
    split at h
    · obtain ⟨ι, inv, st, Φ, hwf, hA, hB⟩ := h.ex
      refine wpIn_seq (wpIn_mono (ihx hdr.1 _ _ ℓ env S a w hI hA) ?_)
      intro e a' w' hq
      cases e with
      | normal =>
        obtain ⟨ℓ', env', S', hI', x, hΦ, he, hS⟩ := hq
        exact ihy hdr.2 cuts K _ (inv x) (st x) a' w' (hI'.part he (hwf x hΦ).1 hS (by rw [hm]; exact Nat.le_of_ble_eq_true (hwf x hΦ).2)) (hB x hΦ)
      | exit id => exact hq
      | goto l => exact hq
      | ret => exact hq
      | panic ch => exact hq
      | outgrown => exact hq
    · refine wpIn_seq (wpIn_mono (ihx hdr.1 _ _ ℓ env S a w hI h) ?_)
      intro e a' w' hq
      cases e with
      | normal => obtain ⟨ℓ', env', S', hI', hk⟩ := hq; exact ihy hdr.2 cuts K ℓ' env' S' a' w' hI' hk
      | exit id => exact hq
      | goto l => exact hq
      | ret => exact hq
      | panic ch => exact hq
      | outgrown => exact hq
  | cond x t e iht ihe =>
    intro hdr cuts K ℓ env S a w hI h
    simp only [DrawsOK, Bool.and_eq_true] at hdr
    simp only [vcC_cond, vcCond] at h
    split at h
    · rename_i b hb
      have := getter_sound hI (al := []) (by simp [Holds]) (ex := []) (by simp [Holds]) hb
      refine wpIn_cond (t := b) this.2 ?_
      cases b with
      | true => exact iht hdr.1 cuts K ℓ env S a w hI (h.t rfl)
      | false => exact ihe hdr.2 cuts K ℓ env S a w hI (h.f rfl)
    · exact h.elim
  | block id body ih =>
    intro hdr cuts K ℓ env S a w hI h
    simp only [DrawsOK, Bool.and_eq_true] at hdr
    simp only [vcC_block, vcBlock] at h
    refine wpIn_block (wpIn_mono (ih hdr cuts _ ℓ env S a w hI h) ?_)
    intro e a' w' hq
    cases e with
    | normal => exact hq
    | exit id' =>
      obtain ⟨ℓ', env', S', hI', hk⟩ := hq
      simp only [blkK] at hk
      simp only [Exit.inBlock]
      by_cases hid : id' = id
      · subst hid
        rw [if_pos rfl]
        simp only [Nat.beq_refl] at hk
        exact ⟨ℓ', env', S', hI', hk⟩
      · rw [if_neg hid]
        have : Nat.beq id' id = false := by
          cases hbb : Nat.beq id' id with
          | false => rfl
          | true => exact (hid (Nat.eq_of_beq_eq_true hbb)).elim
        simp only [this] at hk
        exact ⟨ℓ', env', S', hI', hk⟩
    | goto l => exact hq
    | ret => exact hq
    | panic ch => exact hq
    | outgrown => exact hq
  | loop body ih =>
    intro hdr cuts K ℓ env S a w hI h
    simp only [DrawsOK, Bool.and_eq_true] at hdr
    simp only [vcC_loop, vcLoop] at h
    obtain ⟨ι, inv, st, Φ, μ, x0, hΦ, he, hS, hwf, hround⟩ := h.ex
    refine wpIn_loop_ghost (fun n a w => ∃ x ℓ, μ x = n ∧ Φ x ∧ Inv c ℓ [] [] (inv x) (st x) a w) (μ x0) ⟨x0, _, rfl, hΦ, hI.part he (hwf x0 hΦ).1 hS (by rw [hm]; exact Nat.le_of_ble_eq_true (hwf x0 hΦ).2)⟩ ?_
    rintro n a w ⟨x, ℓ, rfl, hx, hIx⟩
    refine wpIn_mono (ih hdr cuts _ ℓ (inv x) (st x) a w hIx (hround x hx)) ?_
    intro e a' w' hq
    cases e with
    | normal =>
      obtain ⟨ℓ', env', S', hI', x', hΦ', hμ, he', hS'⟩ := hq
      exact ⟨μ x', hμ, x', _, rfl, hΦ', hI'.part he' (hwf x' hΦ').1 hS' (by rw [hm]; exact Nat.le_of_ble_eq_true (hwf x' hΦ').2)⟩
    | exit id => exact hq
    | goto l => exact hq
    | ret => exact hq
    | panic ch => exact hq
    | outgrown => exact hq
  | exit id => intro _ cuts K ℓ env S a w hI h; exact wpIn_exit ⟨ℓ, env, S, hI, h⟩
  | ret => intro _ cuts K ℓ env S a w hI h; exact wpIn_ret ⟨ℓ, env, S, hI, h⟩
  | rangeFunc g ps assign body iha ihb =>
    intro _ cuts K ℓ env S a w hI h
    simp only [vcC_rangeF, vcRangeF] at h
    split at h
    · rename_i F hF
      have hev := (getter_sound hI (al := []) (by simp [Holds]) (ex := []) (by simp [Holds]) hF)
      obtain ⟨env', hle, hwfe, hrec, ⟨f, first, caps, rfl, hcall⟩, hspec⟩ := h.ex
      refine wpIn_rangeFunc (fun fn _ => ?_)
      -- the record is laid (and, at an outermost loop, the block and its mark)
      have henter : ∃ (mark : List Deferred) (wd w1 : World) (ds : Nat), (Instr.enterLoop fn a.tmps ps assign body (fen c.ro).round).run P w = .ok (wd.heap.size, mark) w1 ∧
          Inv c ℓ [] [] env S { a with defers := mark ++ a.defers } wd ∧ w1 = wd.alloc (.loop { state := .ready, pending := none, fn, tmps := a.tmps, params := ps, assign, body, defers := ds }) := by
        cases hx : c.rx with
        | none =>
          have hro : c.ro = none := by simp [Cx.ro, hx]
          rw [hro]
          refine ⟨[markD w.heap.size], w.alloc (.deferred (some [])), _, w.heap.size, ?_, hI.mark, rfl⟩
          rw [show (fen none).round = none from rfl, run_enterLoop_outer]
          simp [markD]
        | some i =>
          have hlt := hrx i hx
          have hro : c.ro = some (c.ℓ0.getD i default).block := by simp [Cx.ro, hx]
          rw [hro]
          simp only [hx, inRec] at hrec
          split at hrec
          · rename_i x hxo
            obtain ⟨b, r, hb, hr, _⟩ := hI.rewrite hxo
            have hbb : (c.ℓ0.getD i default).block = b.block := by
              rw [← prefix_getD hI.pre (by rw [hm]; exact hlt)]
              simp [List.getD, hb]
            refine ⟨[], w, _, r.defers, ?_, hI, rfl⟩
            rw [show (fen (some (c.ℓ0.getD i default).block)).round = some (c.ℓ0.getD i default).block from rfl, hbb, run_enterLoop_inner hr]
          · cases hrec
      obtain ⟨mark, wd, w1, ds, he, hId, hw1⟩ := henter
      have hst := hId.record hN hle hwfe fn ps assign body ds
      simp only at hst
      rw [← hw1] at hst
      have hI1 := hId.step hst
      obtain ⟨nx, hnx, hruns⟩ := hspec _ _ _ hI1.good hI1.freshJ
      have hyl : (SV.yld S.own.length).den (ℓ ++ [⟨wd.heap.size, 0⟩]) = .func (.yield wd.heap.size) #[] #[] := by
        simp only [SV.den]
        rw [← hId.good.len, getD_new]
      have hsem : ((Cal.val (.fn (.func f) first caps)).sem (ℓ ++ [⟨wd.heap.size, 0⟩]) [.yld S.own.length]).run P w1 = .ok (.enter f (((SV.denL (ℓ ++ [⟨wd.heap.size, 0⟩]) first).toArray ++ #[.func (.yield wd.heap.size) #[] #[]]) ++ (SV.denL (ℓ ++ [⟨wd.heap.size, 0⟩]) caps).toArray)) w1 := by
        simp only [Cal.sem, SV.denL, hyl]
        simp only [SV.den, Deferred.ofValue, Sem.run_bind, Sem.run_pure, Result.andThen_ok, invoke]
        exact hcall _ _
      rw [hsem] at hnx
      simp only [Result.ok.injEq, and_true] at hnx
      subst hnx
      have hden : (SV.fn (.func f) first caps).den (ℓ ++ [⟨wd.heap.size, 0⟩]) = (SV.fn (.func f) first caps).den ℓ := SV.den_congr (n := S.own.length) (fun i hi => getD_append_left (by rw [hId.good.len]; exact hi)) _ hev.1
      simp only [SV.den, Value.func.injEq, true_and] at hden
      refine ⟨wd.heap.size, mark, w1, { target := .fn (.func f) (SV.denL ℓ caps).toArray, args := (SV.denL ℓ first).toArray ++ #[.func (.yield wd.heap.size) #[] #[]] }, w1, f, ((SV.denL ℓ first).toArray ++ #[.func (.yield wd.heap.size) #[] #[]]) ++ (SV.denL ℓ caps).toArray, w1, he, ?_, fun _ _ => trivial, ?_, fun h => by simp [fen] at h, ?_⟩
      · simp only [resolve, hev.2, SV.den, Deferred.ofValue]
        simp [Act.eval]
      · simp only [invoke]
        exact hcall _ _
      · refine CallsIn.mono (R := _) (by rw [← hden.1, ← hden.2]; exact hruns) ?_
        rintro e w3 ⟨ℓ', o, S', heq, hwo, hpre, hx, hG', hf, hR⟩
        have hI3 := hI1.step ⟨hpre, hx, hG', hf⟩
        cases o with
        | pan v =>
          subst heq
          exact ⟨ℓ', S', v, hI3.noEnv, hwo, rfl, hR⟩
        | ret rv =>
          subst heq
          simp only [afterLoop] at hR
          split at hR
          · rename_i x hxo
            split at hR
            · exact hR.elim
            · rename_i hnb
              rw [forceL_eq, putOwn_eq] at hR
              obtain ⟨b, r, hb, hr, hrs, hrp, hstp⟩ := hI3.rewrite hxo
              have hbb : b.block = wd.heap.size := by
                have h1 := prefix_getD hpre (i := S.own.length) (by simp [hId.good.len])
                rw [← hId.good.len, getD_new] at h1
                rw [← hId.good.len] at hb
                simp only [List.getD, hb, Option.getD_some] at h1
                rw [h1]
              rw [← hbb]
              refine ⟨r.pending, _, run_endLoop hr (by rw [hrs]; exact fun e => hnb e), ?_⟩
              have hI4 := hI3.step (hstp .exhausted r.pending)
              rw [hrp] at hI4 ⊢
              split at hR
              · rename_i hp
                rw [hp]
                rw [hp] at hI4
                exact ⟨ℓ', env, _, hI4, by rw [hp] at hR; exact hR⟩
              · rename_i hp
                rw [hp]
                rw [hp] at hI4
                exact wpIn_ret ⟨ℓ', env, _, hI4, by rw [hp] at hR; exact hR⟩
              · rename_i id hp
                rw [hp]
                rw [hp] at hI4
                exact wpIn_exit ⟨ℓ', env, _, hI4, by rw [hp] at hR; exact hR⟩
              · exact hR.elim
          · exact hR.elim
    · exact h.elim
  | scope body ih =>
    intro hdr cuts K ℓ env S a w hI h
    simp only [DrawsOK] at hdr
    simp only [vcC_scope] at h
    exact wpIn_scope (fun _ _ _ hq => hq) (ih hdr cuts K ℓ env S a w hI h)
  | goto l => intro _ cuts K ℓ env S a w hI h; exact h.elim
  | refuse why => intro _ cuts K ℓ env S a w hI h; exact h.elim

/-- The end: the outcome and a part of the state satisfy R. -/
theorem at_end {J : Nat → Prop} {m : Nat} {o : Out} {R : Out → St → Prop} {S0 : St} {ℓ0 : List Base} {w0 : World} (hc1 : c.ℓ0 = ℓ0) (hc2 : c.S0 = S0) (hc3 : c.w0 = w0) (hm : c.ℓ0.length = m) (hI : Inv c ℓ [] [] env S a w) (hJ : ∀ b, c.Ja a b → J b) (hr : AtRet m o S R) : CallPost J ℓ0 S0 w0 R (o.ending ℓ) w := by
  subst hc1 hc2 hc3
  obtain ⟨S2, hS2, hm2, hwf2, hR⟩ := hr.ex
  have hI2 := hI.part (env' := []) (by simp [envLe]) (by simp [envWf]) hS2 (by rw [hm]; exact hm2)
  have hcong : ∀ i, i < S2.own.length → (ℓ.take S2.own.length).getD i default = ℓ.getD i default := fun i hi => by simp [List.getD, List.getElem?_take, hi]
  refine ⟨ℓ.take S2.own.length, o, S2, ?_, hwf2, hI2.pre, hI2.ext, hI2.good.toJ (fun b _ hb => hJ b hb), hI2.fresh, hR⟩
  cases o with
  | ret r => simp only [Out.ending]; rw [SV.den_congr hcong r hwf2]
  | pan v => simp only [Out.ending]; rw [SV.den_congr hcong v hwf2]

/-- A contract out of a function's body. -/
theorem spec_of_body {f : FuncId} {fn : Func} {code : Code} {N m : Nat} {dt : Draws} {caps args : List SV} {R : Out → St → Prop} (cuts : List Nat) (hT : TTOK P tt) (hf : P.funcs[f]? = some fn) (hb : fn.body = some code) (hcall : ∀ as w, (callFunc f as).run P w = .ok (.enter f as) w)
    (hN : fn.ntmps = N) (hle : Nat.ble (args ++ caps).length N = true) (hwf : SV.wfL S.own.length (args ++ caps) = true) (hm : S.own.length = m)
    (hD : P.follows .mixedOrders = true) (hdr : DrawsOK dt code = true)
    (h : vcC P tt N m none dt code cuts (vcEnd tt m fn.results.toList R) (argEnv 0 (args ++ caps)) S) : Meets P (.val (.fn (.func f) [] caps)) args S R := by
  intro J ℓ w hG hJ
  refine ⟨.enter f (SV.denL ℓ (args ++ caps)).toArray, ?_, ?_⟩
  · simp only [Cal.sem, SV.den, SV.denL, Deferred.ofValue, Sem.run_bind, Sem.run_pure, Result.andThen_ok, invoke, SV.denL_append]
    simpa using hcall _ w
  · let c : Cx := ⟨J, ℓ, S, w, N, none⟩
    have hsz : (SV.denL ℓ (args ++ caps)).toArray.size ≤ fn.ntmps := by
      rw [List.size_toArray, SV.denL_length, hN]; exact Nat.le_of_ble_eq_true hle
    have hI : Inv c ℓ [] [] (argEnv 0 (args ++ caps)) S { tmps := (SV.denL ℓ (args ++ caps)).toArray ++ Array.replicate (fn.ntmps - (SV.denL ℓ (args ++ caps)).toArray.size) undef, defers := [] } w := by
      refine ⟨?_, ⟨rfl, by simp [marksOf], by simp [marksOf]⟩, ?_, fun t s tags h => by simp [gfind] at h, by simp [Holds], hG.toJ (fun b _ hb => ⟨hb, by simp [marksOf]⟩), hJ, List.prefix_refl _, Ext.refl _ _, fun b hb => .inl hb⟩
      · rw [Array.size_append, Array.size_replicate]; show _ = N; omega
      · intro t s hs
        obtain ⟨_, hs⟩ := argEnv_spec _ _ _ _ hs
        rw [Nat.sub_zero] at hs
        refine ⟨SV.wfL_iff.1 hwf s (List.mem_of_getElem? hs), ?_⟩
        have hlt : t < (args ++ caps).length := (List.getElem?_eq_some_iff.1 hs).1
        have hget : (SV.denL ℓ (args ++ caps))[t]? = some (s.den ℓ) := by rw [denL_get, hs]; rfl
        rw [Array.getD_eq_getD_getElem?, Array.getElem?_append_left (by rw [List.size_toArray, SV.denL_length]; exact hlt)]
        simp [hget]
    have hm' : c.ℓ0.length = m := by rw [← hm]; exact hG.len
    refine callsIn_of_wp_marks (F := fen none) hf hb trivial (wpIn_mono (vcC_sound (c := c) rfl hm' hT (fun i hi => by cases hi) hD code hdr cuts _ ℓ _ S _ w hI h) ?_)
    have hret : ∀ ℓ' env' S' a' w' r, Inv c ℓ' [] [] env' S' a' w' → resOf tt S'.own env' fn.results.toList = some r → AtRet m (.ret r) S' R → LeavesInM (fen none) 0 P fn a'.tmps (CallPost J ℓ S w R) a'.defers .returning w' := by
      intro ℓ' env' S' a' w' r hI' hr hk
      refine leaves_marks (by simp) _ _ hI'.defers (fun w2 hs => ?_)
      have hI2 := hI'.shut hs
      have hres := resOf_sound (P := P) hT (fn := fn) hI2 hr
      exact ⟨_, hres.2, at_end (c := c) rfl rfl rfl hm' hI2 (fun b hb => hb.1) hk⟩
    intro e a' w' hq
    cases e with
    | normal =>
      obtain ⟨ℓ', env', S', hI', hk⟩ := hq
      simp only [vcEnd] at hk
      split at hk
      · rename_i r hr
        exact hret _ _ _ _ _ _ hI' hr hk
      · exact hk.elim
    | ret =>
      obtain ⟨ℓ', env', S', hI', hk⟩ := hq
      simp only [vcEnd] at hk
      split at hk
      · rename_i r hr
        exact hret _ _ _ _ _ _ hI' hr hk
      · exact hk.elim
    | exit id =>
      obtain ⟨ℓ', env', S', hI', hk⟩ := hq
      exact hk.elim
    | goto l => exact hq.elim
    | panic ch =>
      obtain ⟨ℓ', S', v, hI', hv, rfl, hk⟩ := hq
      refine leaves_marks (by simp) _ _ hI'.defers (fun w2 hs => ?_)
      exact at_end (c := c) (o := .pan v) rfl rfl rfl hm' (hI'.shut hs) (fun b hb => hb.1) hk
    | outgrown => exact hq.elim

/-- The parameters of a round, bound. -/
theorem bind_env {N n : Nat} : ∀ (ps : List Nat) (ss : List SV) (env : Env) (tmps : Array Value), tmps.size = N → (∀ p ∈ ps, p < N) → SV.wfL n ss = true → EnvOK ℓ n env ⟨tmps, []⟩ →
    ((ps.zip (SV.denL ℓ ss)).foldl (fun tmps (t, v) => tmps.setIfInBounds t v) tmps).size = N ∧ EnvOK ℓ n (bindPs ps ss env) ⟨(ps.zip (SV.denL ℓ ss)).foldl (fun tmps (t, v) => tmps.setIfInBounds t v) tmps, []⟩
  | [], ss, env, tmps, hN, _, _, h => by simpa [bindPs] using ⟨hN, h⟩
  | p :: ps, [], env, tmps, hN, _, _, h => by simpa [bindPs, SV.denL] using ⟨hN, h⟩
  | p :: ps, s :: ss, env, tmps, hN, hp, hw, h => by
    simp only [SV.wfL, Bool.and_eq_true] at hw
    simp only [SV.denL, List.zip_cons_cons, List.foldl_cons, bindPs]
    refine bind_env ps ss _ _ (by simp [hN]) (fun q hq => hp q (by simp [hq])) hw.2 ?_
    intro t s' hs'
    have hlt : p < tmps.size := by rw [hN]; exact hp p (by simp)
    simp only [find] at hs'
    split at hs'
    · rename_i hb
      have hb := Nat.eq_of_beq_eq_true hb
      cases hs'
      subst hb
      exact ⟨hw.1, put_get_self (a := ⟨tmps, []⟩) hlt⟩
    · rename_i hb
      have hne : t ≠ p := fun e => by subst e; simp at hb
      have := h t s' hs'
      exact ⟨this.1, (put_get_other (a := ⟨tmps, []⟩) hne).trans this.2⟩

/-- A contract of the function that asks for a round: out of the loop's code. -/
theorem spec_of_round {i : Nat} {x : LoopX} {N m : Nat} {dt : Draws} {args : List SV} {R : Out → St → Prop} (cuts : List Nat) (hT : TTOK P tt) (hi : nth S.own i = some (.lp x)) (hps : x.ps.size = args.length) (hN : x.N = N) (hb : (x.ps.toList.all fun p => Nat.blt p N) = true)
    (hwf : SV.wfL S.own.length args = true) (hm : S.own.length = m) (hD : P.follows .mixedOrders = true) (hdr : DrawsOK dt x.assign = true) (hdr' : DrawsOK dt x.body = true)
    (h : vcC P tt N m (some i) dt x.assign cuts (seqK (fun env S => beginS i S (fun S => vcC P tt N m (some i) dt x.body cuts (roundEnd m i R) env S)) (fun _ _ _ => False)) (bindPs x.ps.toList args x.env) S) : Meets P (.val (.yld i)) args S R := by
  intro J ℓ w hG hJ
  have hk : S.own[i]? = some (.lp x) := by rw [← nth_eq]; exact hi
  have hilt : i < S.own.length := (List.getElem?_eq_some_iff.1 hk).1
  obtain ⟨b, hbl, hok⟩ := own_at hG hk
  have hwfx := wf_of_mem hG.wf hk
  simp only [BlkOK] at hok
  obtain ⟨h0, r, hr, e1, e2, e3, e4, e5, e6, e7⟩ := hok
  have hden : (SV.yld i).den ℓ = .func (.yield b.block) #[] #[] := by simp [SV.den, List.getD, hbl]
  have hyl := run_yield (P := P) (args := (SV.denL ℓ args).toArray) hr (by simp [SV.denL_length, e3, hps])
  refine ⟨.round b.block r.fn ((r.params.zip (SV.denL ℓ args).toArray).foldl (fun tmps (t, a) => tmps.setIfInBounds t a) r.tmps) r.assign r.body, ?_, ?_⟩
  · simp only [Cal.sem, hden, Deferred.ofValue, Sem.run_bind, Sem.run_pure, Result.andThen_ok, invoke]
    simpa using hyl
  · let c : Cx := ⟨J, ℓ, S, w, N, some i⟩
    have hro : c.ro = some b.block := by simp [Cx.ro, c, List.getD, hbl]
    have hm' : c.ℓ0.length = m := by rw [← hm]; exact hG.len
    have hbind := bind_env (ℓ := ℓ) (n := S.own.length) x.ps.toList args x.env r.tmps (N := N) (by rw [e6, hN]) (fun p hp => by simpa using List.all_eq_true.1 hb p hp) hwf (fun t s hs => ⟨envWf_spec hwfx t s hs, e7 t s hs⟩)
    have hfold : (r.params.zip (SV.denL ℓ args).toArray).foldl (fun tmps (t, a) => tmps.setIfInBounds t a) r.tmps = (x.ps.toList.zip (SV.denL ℓ args)).foldl (fun tmps (t, v) => tmps.setIfInBounds t v) r.tmps := by
      rw [← Array.foldl_toList, Array.toList_zip, e3]
    show RoundIn (fen none) 0 P b.block r.fn _ r.assign r.body w (CallPost J ℓ S w R)
    rw [hfold, e4, e5]
    have hI : Inv c ℓ [] [] (bindPs x.ps.toList args x.env) S { tmps := (x.ps.toList.zip (SV.denL ℓ args)).foldl (fun tmps (t, v) => tmps.setIfInBounds t v) r.tmps, defers := [] } w :=
      ⟨hbind.1, ⟨rfl, by simp [marksOf], by simp [marksOf]⟩, hbind.2, fun t s tags h => by simp [gfind] at h, by simp [Holds], hG.toJ (fun b _ hb => ⟨hb, by simp [marksOf]⟩), hJ, List.prefix_refl _, Ext.refl _ _, fun b hb => .inl hb⟩
    have hrx : ∀ j, c.rx = some j → j < m := fun j hj => by cases hj; omega
    have hfen : (fen none).inRound b.block = fen c.ro := by rw [hro]; rfl
    refine roundIn_of_wpIn (F := fen none) trivial ?_
    rw [hfen]
    have hbase : ∀ {ℓ' : List Base} {b' : Base}, ℓ <+: ℓ' → ℓ'[i]? = some b' → b' = b := by
      intro ℓ' b' hp hb'
      have h1 := prefix_getD hp (i := i) (by rw [hG.len]; exact hilt)
      simp only [List.getD, hb', hbl, Option.getD_some] at h1
      exact h1
    refine wpIn_mono (vcC_sound (c := c) rfl hm' hT hrx hD x.assign hdr cuts _ ℓ _ S _ w hI h) ?_
    intro e a1 w1 hq
    cases e with
    | normal =>
      obtain ⟨ℓ1, env1, S1, hI1, hk1⟩ := hq
      simp only [seqK, beginS] at hk1
      split at hk1
      · rename_i x1 hx1
        split at hk1
        · rename_i hready
          rw [forceL_eq, putOwn_eq] at hk1
          obtain ⟨b1, r1, hb1, hr1, hs1, hp1, hst1⟩ := hI1.rewrite hx1
          have := hbase hI1.pre hb1
          subst this
          refine ⟨_, run_beginRound hr1 (hs1.trans hready), ?_⟩
          have hI2 := hI1.step (hst1 .busy r1.pending)
          rw [show ({ r1 with state := .busy } : Loop) = { r1 with state := .busy, pending := r1.pending } from rfl]
          rw [hp1] at hI2 ⊢
          refine wpIn_mono (vcC_sound (c := c) rfl hm' hT hrx hD x.body hdr' cuts _ ℓ1 _ _ _ _ hI2 hk1) ?_
          have leave : ∀ (j : Option Code) (ℓ3 : List Base) (env3 : Env) (S3 : St) (a3 : Act) (w3 : World), Inv c ℓ3 [] [] env3 S3 a3 w3 → endS i j S3 (fun S' => AtRet m (.ret (.v (.bool j.isNone))) S' R) → ∃ v w', (Instr.endRound b1.block j).run P w3 = .ok v w' ∧ CallPost J ℓ S w R (.returned v) w' := by
            intro j ℓ3 env3 S3 a3 w3 hI3 hk3
            simp only [endS] at hk3
            split at hk3
            · rename_i x3 hx3
              rw [forceL_eq, putOwn_eq] at hk3
              obtain ⟨b3, r3, hb3, hr3, _, _, hst3⟩ := hI3.rewrite hx3
              have := hbase hI3.pre hb3
              subst this
              have hI4 := hI3.step (hst3 (stOf j) j)
              refine ⟨_, _, run_endRound j hr3, ?_⟩
              have hst : (if j.isNone then LoopState.ready else .done) = stOf j := by cases j <;> rfl
              rw [hst]
              exact at_end (c := c) (o := .ret (.v (.bool j.isNone))) rfl rfl rfl hm' hI4 (fun b hb => hb.1) hk3
            · exact hk3.elim
          intro e a3 w3 hq
          cases e with
          | normal => obtain ⟨ℓ3, env3, S3, hI3, hk3⟩ := hq; exact leave none ℓ3 env3 S3 a3 w3 hI3 hk3
          | ret => obtain ⟨ℓ3, env3, S3, hI3, hk3⟩ := hq; exact leave (some .ret) ℓ3 env3 S3 a3 w3 hI3 hk3
          | exit id => obtain ⟨ℓ3, env3, S3, hI3, hk3⟩ := hq; exact leave (some (.exit id)) ℓ3 env3 S3 a3 w3 hI3 hk3
          | goto l => exact hq.elim
          | panic ch => obtain ⟨ℓ3, S3, v, hI3, hv, rfl, hk3⟩ := hq; exact hk3.elim
          | outgrown => exact hq.elim
        · exact hk1.elim
      · exact hk1.elim
    | exit id => obtain ⟨ℓ3, env3, S3, hI3, hk3⟩ := hq; exact hk3.elim
    | goto l => exact hq.elim
    | ret => obtain ⟨ℓ3, env3, S3, hI3, hk3⟩ := hq; exact hk3.elim
    | panic ch => obtain ⟨ℓ3, S3, v, hI3, hv, rfl, hk3⟩ := hq; exact hk3.elim
    | outgrown => exact hq.elim

end
end Go.Tr
