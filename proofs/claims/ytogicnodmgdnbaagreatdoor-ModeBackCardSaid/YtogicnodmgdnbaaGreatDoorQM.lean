/- Merged texts: MiF RowLaid RowMB CardMB. Plain law: ModeBack answers true at every signature and mode whose lists are not too long. No program in sight. A start at which the listed tables read as their initialisers lay them. No condition. ModeBack answers true at every input, and its arguments read as they did. No condition. ModeBack: the card: the row, its listed tables tied to the program's text by the given tie. No condition. -/
import Derived.Test.YtogicnodmgdnbaaGreatDoorQL
import Derived.JoinedAt
import Derived.LaidLaws
import Derived.Deep.DeepLaidRun
import Derived.Test.YtogicnodmgdnbaaGreatDoorCards
import Derived.Test.YtogicnodmgdnbaaGreatDoorTie
import Derived.SevenTiedAt
/-! MiF -/
section
namespace Go.Proofs.YtogicnodmgdnbaaGreatDoor
open Go.Tr Go
set_option linter.unusedVariables false
set_option linter.unusedSimpArgs false
set_option maxRecDepth 10000

abbrev nB : ByteArray := ⟨#[78]⟩
/-- The signs, each with the name N. -/
def qsR (l : List Int) : List (Int × ByteArray) := l.map (fun v => (v, nB))
theorem qsR_length (l : List Int) : (qsR l).length = l.length := by simp [qsR]
theorem qsR_signs : ∀ (l : List Int), (qsR l).map (·.1) = l
  | [] => rfl
  | v :: l => by
    have := qsR_signs l
    simp only [qsR, List.map_cons] at this ⊢
    rw [this]
theorem qsR_ok {l : List Int} (h : ∀ s ∈ l, is3 s) : ∀ q ∈ qsR l, okQ q := by
  intro q hq
  simp only [qsR, List.mem_map] at hq
  obtain ⟨v, hv, rfl⟩ := hq
  exact ⟨h v hv, show namedF nB = true by decide +kernel⟩

theorem setMidH {α : Type} (h x y : α) (A B : List α) : (h :: (A ++ x :: B)).set (A.length + 1) y = h :: (A ++ y :: B) := by
  rw [List.set_cons_succ, List.set_append_right _ _ (Nat.le_refl _), Nat.sub_self, List.set_cons_zero]
theorem getMidH {α : Type} (h x : α) (A B : List α) : (h :: (A ++ x :: B))[A.length + 1]? = some x := by
  rw [List.getElem?_cons_succ, List.getElem?_append_right (Nat.le_refl _), Nat.sub_self]; rfl

section
variable {sig : List Dc} {m : Md} {d : Dc} {imp : Nat}

theorem backEnd_ev (hs : sigOK sig = true) (hd : idx sig m.family = some d) (hk : kindT d.cls = true) (him : d.implicit = (imp : Int)) (h3 : ∀ s ∈ m.signs, is3 s) (hlen : (split d.cls).1.length = m.signs.length) (himp : imp ≤ m.signs.length) (hsz : m.signs.length ≤ 90) (ha : agree d imp m.signs = true) :
    Ev (fun n => (mode_Read_2 n sig (itW d (qsR (m.signs.drop imp)))).bind (fun v47 => cond (decide ((0 : Int) ≤ (0 : Int) ∧ (0 : Int) ≤ (IntKind.i64.wrap (((Pt.encL (itW d (qsR (m.signs.drop imp))).parts).length : Int) - 1)) ∧ (IntKind.i64.wrap (((Pt.encL (itW d (qsR (m.signs.drop imp))).parts).length : Int) - 1)) ≤ ((Pt.encL (itW d (qsR (m.signs.drop imp))).parts).length : Int)))
      ((mode_Read_2 n sig (It.mk (itW d (qsR (m.signs.drop imp))).word (itW d (qsR (m.signs.drop imp))).name (itW d (qsR (m.signs.drop imp))).raw ((itW d (qsR (m.signs.drop imp))).parts.take (IntKind.i64.wrap (((Pt.encL (itW d (qsR (m.signs.drop imp))).parts).length : Int) - 1)).toNat))).bind (fun v52 =>
        cond (v47.2 == 0) ((W14_same n v47.1 m).bind (fun v56 => cond (v56 && ((((Pt.encL ((itW d (qsR (m.signs.drop imp))).parts.take (IntKind.i64.wrap (((Pt.encL (itW d (qsR (m.signs.drop imp))).parts).length : Int) - 1)).toNat)).length : Int) == 0) || (v52.2 == 23))) ((W14_awake n).bind (fun v59 => some (v59))) (some (false)))) (some (false)))) none)) true := by
  have hmem : ∀ s ∈ m.signs.drop imp, is3 s := fun s hs => h3 s (List.mem_of_mem_drop hs)
  have hag : (List.range imp).map (dF d (m.signs.drop imp) imp) ++ m.signs.drop imp = m.signs := of_decide_eq_true ha
  have hrd := readW_ev hs hd hk him (qsR (m.signs.drop imp)) (qsR_ok hmem) (by rw [qsR_length]; simp; omega)
  rw [if_pos (by rw [qsR_length]; simp; omega), qsR_signs, hag] at hrd
  generalize hB : m.signs.drop imp = B at hrd hmem ⊢
  have hBl : B.length + imp = m.signs.length := by rw [← hB]; simp; omega
  have hpl : ((Pt.encL (itW d (qsR B)).parts).length : Int) = (B.length : Int) + 1 := by
    rw [Pt.encL_length]; simp [qsR]
  have hw : IntKind.i64.wrap (((Pt.encL (itW d (qsR B)).parts).length : Int) - 1) = (B.length : Int) := by
    rw [hpl, wrap_i64 (by omega) (by omega)]; omega
  rw [hw]
  refine hrd.bind (Ev.need (by rw [hpl]; exact decide_eq_true ⟨by omega, by omega, by omega⟩) ?_)
  rw [Int.toNat_natCast]
  have hsame := same14_ev m (by omega)
  have hm : (⟨m.family, m.signs⟩ : Md) = m := by cases m; rfl
  rw [hm]
  rcases List.eq_nil_or_concat B with e | ⟨L, v, e⟩
  · subst e
    have hck : Ev (fun k => sign_Check k sig) 0 := by have := check_ev sig; rw [if_pos hs] at this; exact this
    have h0 : Ev (fun n => mode_Read_2 n sig (It.mk (itW d (qsR [])).word (itW d (qsR [])).name (itW d (qsR [])).raw ((itW d (qsR [])).parts.take ([] : List Int).length))) (⟨0, []⟩, 2) := by
      refine Ev.succ (fun k => mode_Read_2.eq_2 ..) (hck.bind (Ev.f rfl (Ev.t ?_ (Ev.pure _))))
      simp [Pt.encL_length]
    exact h0.bind (Ev.t rfl (hsame.bind (Ev.t rfl (awake14_ev.bind (Ev.pure _)))))
  · rw [List.concat_eq_append] at e
    subst e
    have hit : (It.mk (itW d (qsR (L ++ [v]))).word (itW d (qsR (L ++ [v]))).name (itW d (qsR (L ++ [v]))).raw ((itW d (qsR (L ++ [v]))).parts.take (L ++ [v]).length)) = itW d (qsR L) := by
      have : (itW d (qsR (L ++ [v]))).parts.take (L ++ [v]).length = (itW d (qsR L)).parts := by
        show (headP d :: (qsR (L ++ [v])).map signP).take (L ++ [v]).length = headP d :: (qsR L).map signP
        rw [show (L ++ [v]).length = L.length + 1 by simp, List.take_succ_cons]
        congr 1
        simp only [qsR, List.map_append, List.map_map]
        rw [List.take_left' (by simp)]
      rw [this]
    have hq := readW_ev hs hd hk him (qsR L) (qsR_ok (fun s h => hmem s (List.mem_append_left _ h))) (by rw [qsR_length]; simp at hBl; omega)
    rw [if_neg (by rw [qsR_length]; simp at hBl; omega)] at hq
    rw [hit]
    refine hq.bind (Ev.t rfl (hsame.bind (Ev.t ?_ (awake14_ev.bind (Ev.pure _)))))
    show (true && (_ || ((23 : Int) == 23))) = true
    simp

theorem backL_ev (hs : sigOK sig = true) (hd : idx sig m.family = some d) (hk : kindT d.cls = true) (him : d.implicit = (imp : Int)) (h3 : ∀ s ∈ m.signs, is3 s) (hlen : (split d.cls).1.length = m.signs.length) (himp : imp ≤ m.signs.length) (hsz : m.signs.length ≤ 90) (ha : agree d imp m.signs = true) :
    ∀ (ts pre : List Int), pre ++ ts = m.signs.drop imp → Ev (fun k => W14_ModeBack_L1 k sig m (itW d (qsR pre ++ qsL ts pre.length)) ((pre.length + 1 : Nat) : Int)) true := by
  intro ts
  have hBl : (m.signs.drop imp).length + imp = m.signs.length := by simp; omega
  induction ts with
  | nil =>
    intro pre h
    rw [List.append_nil] at h
    subst h
    simp only [qsL, List.append_nil]
    refine Ev.succ (fun k => W14_ModeBack_L1.eq_2 ..) (Ev.f ?_ (backEnd_ev hs hd hk him h3 hlen himp hsz ha))
    rw [Pt.encL_length]; simp [qsR]
  | cons v ts ih =>
    intro pre h
    have hpl : pre.length + ts.length + 1 + imp = m.signs.length := by
      rw [← hBl, ← h]; simp; omega
    have hrec := ih (pre ++ [v]) (by rw [List.append_assoc]; exact h)
    have e1 : (itW d (qsR pre ++ qsL (v :: ts) pre.length)).parts = headP d :: ((qsR pre).map signP ++ signP (v, nmOf pre.length) :: (qsL ts (pre.length + 1)).map signP) := by
      show headP d :: (qsR pre ++ qsL (v :: ts) pre.length).map signP = _
      rw [List.map_append]; rfl
    have hA : ((qsR pre).map signP).length = pre.length := by simp [qsR]
    have hg : idx (itW d (qsR pre ++ qsL (v :: ts) pre.length)).parts ((pre.length + 1 : Nat) : Int) = some (signP (v, nmOf pre.length)) := by
      rw [idx_nat, e1, ← hA]
      exact getMidH _ _ _ _
    refine Ev.succ (fun k => W14_ModeBack_L1.eq_2 ..) (Ev.t ?_ (Ev.some hg ?_))
    · rw [e1, Pt.encL_length]; simp [qsR]; omega
    · rw [wrapS (by omega)]
      have hit : (It.mk (itW d (qsR pre ++ qsL (v :: ts) pre.length)).word (itW d (qsR pre ++ qsL (v :: ts) pre.length)).name (itW d (qsR pre ++ qsL (v :: ts) pre.length)).raw ((itW d (qsR pre ++ qsL (v :: ts) pre.length)).parts.set (((pre.length + 1 : Nat) : Int)).toNat (Pt.mk (signP (v, nmOf pre.length)).op (signP (v, nmOf pre.length)).sign (⟨#[78]⟩ : ByteArray) (signP (v, nmOf pre.length)).n (signP (v, nmOf pre.length)).raw (signP (v, nmOf pre.length)).parts))) = itW d (qsR (pre ++ [v]) ++ qsL ts (pre ++ [v]).length) := by
        rw [e1, Int.toNat_natCast]
        have := setMidH (headP d) (signP (v, nmOf pre.length)) (signP (v, nB)) ((qsR pre).map signP) ((qsL ts (pre.length + 1)).map signP)
        rw [hA] at this
        have e2 : (Pt.mk (signP (v, nmOf pre.length)).op (signP (v, nmOf pre.length)).sign (⟨#[78]⟩ : ByteArray) (signP (v, nmOf pre.length)).n (signP (v, nmOf pre.length)).raw (signP (v, nmOf pre.length)).parts) = signP (v, nB) := rfl
        rw [e2, this]
        have e3 : (itW d (qsR (pre ++ [v]) ++ qsL ts (pre ++ [v]).length)).parts = headP d :: ((qsR pre).map signP ++ signP (v, nB) :: (qsL ts (pre.length + 1)).map signP) := by
          show headP d :: (qsR (pre ++ [v]) ++ qsL ts (pre ++ [v]).length).map signP = _
          simp [qsR]
        rw [← e3]
      rw [hit]
      have e4 : pre.length + 1 + 1 = (pre ++ [v]).length + 1 := by simp
      rw [e4]
      exact hrec
end

theorem modeBack_ev (sig : List Dc) (m : Md) (hb : sigB sig) : Ev (fun k => W14_ModeBack k sig m) true := by
  refine Ev.succ (fun k => W14_ModeBack.eq_2 ..) ?_
  obtain ⟨b, b1, b2⟩ := valid14_y sig hb
  refine b1.bind (Ev.ite (fun _ => awake14_ev.bind (Ev.pure _)) (fun h => ?_))
  have hs := b2 (nb' h)
  cases hr : rightB sig m with
  | false =>
    have hit : Ev (fun k => mode_Item_2 k sig m) (it0, 2) := by
      have hck : Ev (fun k => sign_Check k sig) 0 := by have := check_ev sig; rw [if_pos hs] at this; exact this
      have him := isMode_ev hs m
      rw [hr] at him
      exact Ev.succ (fun k => mode_Item_2.eq_2 ..) (hck.bind (Ev.f rfl (him.bind (Ev.t rfl (Ev.pure _)))))
    exact hit.bind (Ev.t rfl (Ev.t rfl (awake14_ev.bind (Ev.pure _))))
  | true =>
    obtain ⟨d, hd, hk, hlen, h3⟩ := rightB_yes hr
    have hdm : d ∈ sig := List.mem_of_getElem? (idx_some hd).2
    have hp : Pr d.cls := (sigOK_proper hs).2 d hdm
    have hsf := (split_facts hp).2.2.2.2
    obtain ⟨hi0, hi1⟩ := sigOK_impM hs d hdm
    obtain ⟨imp, him⟩ : ∃ imp : Nat, d.implicit = (imp : Int) := ⟨d.implicit.toNat, by omega⟩
    have hit := item_ev hs hd hk him h3 hlen hr
    refine hit.bind ?_
    cases ha : agree d imp m.signs with
    | false => exact Ev.t rfl (Ev.t rfl (awake14_ev.bind (Ev.pure _)))
    | true =>
      have hmem : ∀ s ∈ m.signs.drop imp, is3 s := fun s hs => h3 s (List.mem_of_mem_drop hs)
      have hag : (List.range imp).map (dF d (m.signs.drop imp) imp) ++ m.signs.drop imp = m.signs := of_decide_eq_true ha
      have hback : (m.signs.drop imp).length + imp = m.signs.length := by simp; omega
      have hrd := readW_ev hs hd hk him (qsL (m.signs.drop imp) 0) (qsL_ok _ 0 hmem (by omega)) (by rw [qsL_length]; omega)
      rw [if_pos (by rw [qsL_length]; omega), qsL_signs, hag] at hrd
      have hm : (⟨m.family, m.signs⟩ : Md) = m := by cases m; rfl
      rw [hm] at hrd
      refine Ev.f rfl (hrd.bind (Ev.f rfl ((same14_ev m (by omega)).bind (Ev.f ?_ ?_))))
      · show (false || decide (((Pt.encL (itM d (m.signs.drop imp)).parts).length : Int) < 1)) = false
        rw [Pt.encL_length]; simp; omega
      · exact backL_ev hs hd hk him h3 hlen (by omega) (by omega) ha (m.signs.drop imp) [] rfl
end Go.Proofs.YtogicnodmgdnbaaGreatDoor
end

/-! RowLaid -/
section
namespace Go.Proofs.YtogicnodmgdnbaaGreatDoor
open Go.Tr Go
open Go.ChangeShapes Go.WideShapes Go.ChangeAt Go.RowKit
set_option maxRecDepth 10000

def cellsD : DataW Unit → Array Value
  | .agg l => (l.map fun | .lit (.int k n) => Value.int k n | _ => Value.int .i64 0).toArray
  | _ => #[]
def setCells (vs : Array Value) : Obj → Obj
  | .cells _ t frozen => .cells vs t frozen
  | o => o
noncomputable def laidWorld (os : Os) : World :=
  let w0 := World.holding Tryz.prog os ⟨#[], #[], []⟩
  { w0 with heap := ((w0.heap.modify 0 (setCells (cellsD Rows.laid_internal_strconv_uint64pow10))).modify 1 (setCells (cellsD Rows.laid_math_bits_deBruijn32tab))).modify 2 (setCells (cellsD Rows.laid_math_bits_deBruijn64tab)) }
theorem laidWorld_met (os : Os) (args : Array Value) : laidMet Tryz.prog Rows.modeBackRow.laid ((laidWorld os).forCall (fun _ _ => 0) ⟨#[], args, []⟩).memory :=
  laidMet_of_run3 8 (by kernel_rfl) (by kernel_rfl) (by kernel_rfl)
end Go.Proofs.YtogicnodmgdnbaaGreatDoor
end

/-! RowMB -/
section
namespace Go.Proofs.YtogicnodmgdnbaaGreatDoor
open Go.Tr Go
open Go.ChangeShapes Go.WideShapes Go.ChangeAt Go.RowKit
set_option maxRecDepth 10000

theorem sigB_of {sig : List Dc} (h : okD (.sl 6 (Dc.encL sig))) : sigB sig := by
  simp only [okD] at h
  rw [Dc.encL_length] at h
  refine ⟨h.1, fun d hd => ?_⟩
  have h1 := okL_mem h.2 (List.mem_map_of_mem (f := Dc.enc) hd)
  simp only [okD, okL] at h1
  refine shT_of d.cls ?_
  rw [Tm.enc_eq]
  simp only [okD, okL]
  exact h1.2.1

theorem modeBack_spec (sig : List Dc) (m : Md) (a2 : Option Addr) (c2 : Nat) (a4 : Option Addr) (c4 : Nat) :
    Pure Tryz.prog (fnS 3) [(.v (.slice a2 ((Dc.encL sig).length) c2)), (.agg [(.v (.int .i64 m.family)), (.v (.slice a4 ((List.map (D.int .i64) m.signs).length) c4))])] [(.slice a2 ((Dc.encL sig).length) c2, .sl 6 (Dc.encL sig)), (.slice a4 ((List.map (D.int .i64) m.signs).length) c4, .sl 1 (List.map (D.int .i64) m.signs))] (fun r out => r = bS true ∧ out = []) := by
  refine Meets.of_ok fun hok => ?_
  have hb : sigB sig := sigB_of (hok _ (List.mem_cons_self ..))
  obtain ⟨N, h⟩ := modeBack_ev sig m hb
  exact W14_ModeBack_spec N sig m a2 c2 a4 c4 _ (h N (Nat.le_refl _))

set_option maxRecDepth 100000 in
theorem modeBack_lifted (os : Os) (started : os.Started) (H : Type) (enc : TypeId × Value → H) :
    ReturnsInHanded {} Tryz.checked os 3 .any (fun w args => (Rows.modeBackSpec.pre enc Tryz.prog Tryz.f3 Rows.modeBackRow.domain false w args ∧ laidMet Tryz.prog Rows.modeBackRow.laid w) ∧ sizedMet enc Tryz.prog Tryz.f3 (OpenSpec.ofChange Rows.modeBackSpec) false w args)
      (Rows.modeBackSpec.post enc Tryz.prog Tryz.f3 false true false false) := by
  refine returnsInHanded_of_change_and (C := Tryz.checked) (X := fun w _ => laidMet Tryz.prog Rows.modeBackRow.laid w) (fun _ _ _ hh h => h.of_heap hh) own started (by kernel_rfl) Tryz.func3
    (ChangeSpec.witness_at (enc := enc) (C := Tryz.checked) (os := os) (X := fun w _ => laidMet Tryz.prog Rows.modeBackRow.laid w) false (laidWorld os) #[.slice none 0 0, .agg #[.int .i64 0, .slice none 0 0]] 8 rfl (by kernel_rfl) (by kernel_rfl) (by kernel_rfl) (by kernel_rfl) (by kernel_rfl) (laidWorld_met os _)) ?_
  intro W base args ds gs before hval0 hW _ hsz0 hL _
  have hsz : (DataW.weightsEach Tryz.prog (Tryz.f3.params.toList ++ Rows.modeBackSpec.plain.varTypes Tryz.prog) (ds ++ gs)).all (· ≤ reachBytes) = true := hsz0
  clear hsz0
  have hval : ∀ (j : Nat) t v, Tryz.f3.params[j]? = some t → args[j]? = some v → Value.okWide Tryz.prog W .any base t v := hval0
  have hW' := hW
  obtain ⟨p, q, hA0, hV, rfl, _, _⟩ := hW
  have hA : DataW.TrodAll enc Tryz.prog W 0 (fun _ => true) true Tryz.f3.params.toList args.toList ds p := hA0
  rw [Tryz.params3] at hA hval
  have hsz : (DataW.weightsEach Tryz.prog ([22, 25] ++ []) (ds ++ gs)).all (· ≤ reachBytes) = true := by
    have := hsz
    rw [Tryz.params3] at this
    exact this
  obtain ⟨v0, vs0, d0, ds0, p0, q0, ha0, rfl, rfl, h0, r0⟩ := trodAll_cons hA
  obtain ⟨v1, vs1, d1, ds1, p1, q1, rfl, rfl, rfl, h1, r1⟩ := trodAll_cons r0
  obtain ⟨rfl, rfl, rfl⟩ := trodAll_nil r1
  obtain ⟨rfl, rfl⟩ := trodVars_none hV
  obtain rfl : args = #[v0, v1] := by rw [← Array.toList_inj, ha0]
  have hw := all_le hsz
  simp only [List.append_nil, DataW.weightsEach, List.mem_append] at hw
  obtain ⟨sig, a2, c2, rfl, e2⟩ := argl_Dc (hval 0 _ _ rfl rfl) h0 (fun y hy => hw y (.inl hy))
  obtain ⟨m, a4, c4, rfl, e4⟩ := arg_Md (hval 1 _ _ rfl rfl) h1 (fun y hy => hw y (.inr hy))
  refine ((modeBack_spec sig m a2 c2 a4 c4).calls Tryz.call3 (W := W) ?_).mono ?_
  · intro r hr
    simp only [List.mem_cons, List.not_mem_nil, or_false] at hr
    rcases hr with rfl | rfl
    · exact e2
    · exact e4
  rintro e W' ⟨r, out, rfl, ⟨rfl, rfl⟩, hx⟩
  refine ⟨_, rfl, post_true kids full hW' rfl ?_ ?_ (by kernel_rfl) Tryz.underlying4 hx⟩
  · rw [Tryz.params3]
    decide +kernel
  · intro ds hl
    rw [Tryz.params3] at hl
    match ds, hl with
    | [_, _], _ => rfl

theorem modeBack_holds : Rows.ModeBackSaid :=
  OpenClaim.holds_of_wide 3 Tryz.f3 rfl rfl rfl rfl rfl rfl rfl ⟨rfl, rfl, rfl, rfl, rfl⟩ rfl rfl rfl rfl rfl (by kernel_rfl) Tryz.func3 (by kernel_rfl)
    (of_decide_eq_true (by kernel_rfl)) (by unfold Func.isWrapper; first | (rw [if_pos (by decide +kernel)]; kernel_rfl) | (rw [if_neg (by decide +kernel)]; exact ⟨rfl, rfl⟩))
    (fun os started H enc _ => modeBack_lifted os started H enc)
#print axioms modeBack_holds
end Go.Proofs.YtogicnodmgdnbaaGreatDoor
end

/-! CardMB -/
section
namespace Go.Proofs.YtogicnodmgdnbaaGreatDoor
open Go

theorem modeBackCard_holds : Rows.ModeBackCardSaid :=
  Claim7.holds_tied_plain_at .later [] [.data, .data, .data] true (true, "d068fd9bab5788f1b75df8f61cec510d30c2e2777fd536834d8297285ab7d35c") true
    modeBack_holds (fun _ h => by cases h) (by kernel_rfl) (fun _ h => by cases h) modeBack_row_tie rfl ⟨rfl, rfl⟩ (by kernel_rfl) rfl
    (fun f fn hf hfn => by
      obtain rfl : f = 3 := Option.some.inj ((show Tryz.prog.funcNamed "truss/trusslaw14.ModeBack" = some 3 by kernel_rfl).symm.trans hf) |>.symm
      obtain rfl : fn = Tryz.f3 := (Option.some.inj (Tryz.func3.symm.trans hfn)).symm
      exact ⟨by kernel_rfl, fun j t ht => by
        rw [Tryz.params3] at ht
        have h3 : t = 22 ∨ t = 25 := by
          rcases j with _ | _ | j
          · left; simpa using ht.symm
          · right; simpa using ht.symm
          · simp at ht
        rcases h3 with rfl | rfl
        · exact (show Tryz.prog.wantsStandIn 22 = false by kernel_rfl)
        · exact (show Tryz.prog.wantsStandIn 25 = false by kernel_rfl)⟩)
    (by kernel_rfl)
#print axioms modeBackCard_holds
end Go.Proofs.YtogicnodmgdnbaaGreatDoor
end
