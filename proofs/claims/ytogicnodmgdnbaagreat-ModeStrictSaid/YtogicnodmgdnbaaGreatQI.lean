/- Merged texts: McF McG G3 CompactLay HandS. The check of modes at the sample: mode.check. Conditions stand in each. mode.check at the sample, in the form that gen.py prints. The condition is sampB. ModeReads with fuel, and its contract. Conditions stand in each. The facts that the library's contract of slices.Compact at []int asks of the program. No condition. The contract of slices.Compact at a slice of ints that the run has made. Condition: at most 1000000 elements. -/
import Derived.Test.YtogicnodmgdnbaaGreatQH
import Derived.Shelf.Slices.CompactI
/-! McF -/
section
namespace Go.Proofs.YtogicnodmgdnbaaGreat
open Go.Tr Go
set_option maxRecDepth 100000

theorem at_build146 {S : St} {K : SV → St → Prop} (h : K set0 S) : AtPure Tryz.prog (fun ℓ => Instr.build 146 (denParts ℓ []).toArray) S K :=
  AtPure.val set0 (by kernel_rfl) (fun ℓ w => by kernel_rfl) h

abbrev sgR (sig : List Dc) (a : Option Addr) (c : Nat) : Value × D := (.slice a ((Dc.encL sig).length) c, .sl 6 (Dc.encL sig))
abbrev mpR (g : List (Int × GE Md)) : Value × D := (agV 1 Md.gp g, agD 1 Md.gp g)
noncomputable abbrev mpB (g : List (Int × GE Md)) : Blk := .obj (mapO .i64 (encM Md.gv g))

/-- The own blocks of check, of its frame. -/
noncomputable abbrev ownC (g : List (Int × GE Md)) (nm : ByteArray) (imp : Int) (p : Int) (b : Option Addr) (c : Nat) : List Blk := [mpB g, .cells 3 [iS 0], .cells 3 [iS 0], .cells 32 [iS 0], .cells 143 [.mp 0, iS p], .cells 141 [.loc 4 0], .imm [.v (.string nm), iS 4, iS 2, iS 3, .v (.slice b 2 c), iS imp]]
/-- The own blocks of assume. -/
noncomputable abbrev ownA (b : Option Addr) (c : Nat) : List Blk := [.cells 141 [.loc 4 0], .cells 47 [iS 4, iS 2, iS 3, .v (.slice b 2 c)], .cells 146 z700, .cells 147 [.fn (.func 99) [] [.loc 5 0]], .cells 45 [nilS], .cells 175 [nilS]]

noncomputable abbrev lpA (b : Bool) : Blk := .lp ⟨111, [], #[79, 80], rfAs Tryz.f98, rfBody Tryz.f98, (match b with | true => .ready | false => .exhausted), none⟩
/-- The own blocks of check, assume, Backward. -/
noncomputable abbrev ownB (g : List (Int × GE Md)) (nm : ByteArray) (imp : Int) (b : Option Addr) (c : Nat) (e : Option Addr) (f : Nat) (r : Bool) : List Blk := ownC g nm imp (-1) b c ++ (ownA b c ++ [.cells 31 [iS 3, .v (.slice e 2 f)], .cells 29 [nilS], lpA r])
/-- The own blocks of demand and args. -/
noncomputable abbrev ownD (b : Option Addr) (c : Nat) (e : Option Addr) (f : Nat) : List Blk := [.cells 141 [.loc 4 0], .cells 106 [nilS], .cells 31 [iS 3, .v (.slice e 2 f)], .cells 47 [iS 4, iS 2, iS 3, .v (.slice b 2 c)], .cells 146 z700, .cells 31 [iS 3, .v (.slice e 2 f)], .cells 47 [iS 4, iS 2, iS 3, .v (.slice b 2 c)]]

set_option maxHeartbeats 8000000 in
theorem check0 (sig : List Dc) (d : Dc) (k : Int) (g : List (Int × GE Md)) (a2 : Option Addr) (c2 : Nat) (hd : idx sig k = some d) (hc : d.cls = dzT) (hg : mget (er g) 3 = some ⟨3, [1, 2]⟩) :
    Meets Tryz.prog (fnS 54) [.v (.slice a2 ((Dc.encL sig).length) c2), .mp 0, iS k] ⟨[mpB g], [], [sgR sig a2 c2, mpR g]⟩ (fun o S' => o = .ret (.tup [iS 0, iS 0, iS 0]) ∧ S' = ⟨[mpB g], [], []⟩) := by
  obtain ⟨nm, cls, imp⟩ := d
  simp only at hc
  subst hc
  obtain ⟨hk0, hk1⟩ := idx_some hd
  refine spec_of_defer (N := 23) (m := 1) (dt := drawsOf [(3, .node [0, 1, 2, 3, 4, 5, 6, 7] [(8, .leaf [])], [8], [])]) (d := 10) (h := 97) [] ttOK Tryz.func54 rfl Tryz.call54 Tryz.ntmps54 rfl rfl rfl mixed (by kernel_rfl) (by kernel_rfl) rfl rfl (fun c h => by cases h) rfl rfl rfl Tryz.call97 3 quietC ?_
  refine ⟨[.loc 1 0, .loc 2 0, .loc 3 0], rfl, rfl, ?_⟩
  refine ⟨rfl, ?_⟩
  refine at_index ttOK 0 rfl rfl rfl rfl hk0 (Dc.encL_get hk1) ?_
  intro b1 d1 _ _
  refine at_build146 ?_
  refine spec_of_body (N := 111) (m := 7) (dt := drawsOf [(8, .node [0, 1, 2, 3, 4, 5] [(6, .node [] [(7, .node [8] [(9, .node [] [(10, .leaf [])]), (10, .node [] [(9, .leaf [])])])])], [7, 9], []), (14, .node [0, 1, 2, 3, 4] [(5, .node [6, 7, 8] [(9, .node [] [(10, .leaf [11])])]), (9, .node [] [(5, .node [6, 7, 8] [(10, .leaf [11])])])], [5], [13]), (20, .node [0, 1, 2, 3, 4, 5, 6, 7, 8, 9, 10, 11, 12, 13, 14, 15] [(16, .node [] [(17, .node [] [(18, .node [] [(19, .leaf [])])])])], [18, 19], [])]) [14] ttOK Tryz.func98 rfl Tryz.call98 Tryz.ntmps98 rfl rfl rfl mixed (by kernel_rfl) ?_
  refine AtLoop.mk ⟨Nat, fun _ => [(5, .loc 7 0), (7, .loc 8 0), (8, .loc 9 0), (9, .loc 10 0), (10, .loc 11 0), (11, .loc 12 0), (12, nilS), (1, nilS)], fun _ => ⟨ownC g nm imp (-1) b1 d1 ++ ownA b1 d1, [], [sgR sig a2 c2, mpR g, dzR b1 d1]⟩, fun _ => True, fun x => x, 0, trivial, ⟨rfl, rfl, rfl, rfl, rfl, rfl, rfl, rfl, trivial⟩, StLe.refl _, fun _ _ => ⟨rfl, rfl⟩, ?_⟩
  rintro _ _
  refine AtIf.mk (fun h => by simp at h) (fun h => ?_)
  have hof : mode_of 1 dzT (er g) = some (⟨3, [1, 2]⟩, true) := by
    rw [mode_of.eq_2]
    simp only [Tm.n, hg]
    rfl
  refine AtCut.mk ⟨Option Addr × Nat, fun x => [(17, bS true), (16, .loc 13 0), (5, .loc 7 0), (7, .loc 8 0), (8, .loc 9 0), (9, .loc 10 0), (12, nilS), (1, nilS)], fun x => ⟨ownC g nm imp (-1) b1 d1 ++ (ownA b1 d1 ++ [.cells 31 [iS 3, .v (.slice x.1 2 x.2)]]), [], [sgR sig a2 c2, mpR g, dzR b1 d1, mdR x.1 x.2]⟩, fun _ => True, fun _ _ => ⟨rfl, rfl⟩, ?_, ?_⟩
  · refine ⟨?_, ?_⟩
    · refine (mode_of_spec 1 dzT g b1 d1 (⟨3, [1, 2]⟩, true) hof).frameR [0] [2, 1] rfl rfl rfl rfl rfl rfl rfl rfl ?_
      rintro _ _ ⟨e1, f1, rfl, rfl⟩
      refine ⟨rfl, rfl, [mpB g], rfl, ?_⟩
      refine ⟨OwnKeptBut.append, ?_⟩
      refine ⟨fun _ _ h => h, ?_⟩
      exact ⟨(e1, f1), trivial, ⟨rfl, rfl, rfl, rfl, rfl, rfl, rfl, rfl, trivial⟩, StLe.gen 14 [] [.old 0, .old 1, .old 2, .old 3] rfl rfl rfl rfl rfl rfl rfl⟩
    · refine ⟨OwnKeptBut.append, ?_⟩
      refine (mode_of_spec 1 dzT g b1 d1 (⟨3, [1, 2]⟩, true) hof).frameR [0] [2, 1] rfl rfl rfl rfl rfl rfl rfl rfl ?_
      rintro _ _ ⟨e1, f1, rfl, rfl⟩
      refine ⟨rfl, rfl, [mpB g], rfl, ?_⟩
      refine ⟨fun _ _ h => h, ?_⟩
      exact ⟨(e1, f1), trivial, ⟨rfl, rfl, rfl, rfl, rfl, rfl, rfl, rfl, trivial⟩, StLe.gen 14 [] [.old 0, .old 1, .old 2, .old 3] rfl rfl rfl rfl rfl rfl rfl⟩
  · rintro ⟨e1, f1⟩ _
    refine AtIf.mk (fun h => by simp at h) (fun h => ?_)
    refine (learn0 e1 b1 f1 d1 1).atR [3, 2] rfl rfl rfl ?_
    rintro _ _ ⟨rfl, rfl⟩
    refine spec_of_body (N := 4) (m := 14) (dt := fun _ => none) [] ttOK Tryz.func140 rfl Tryz.call140 Tryz.ntmps140 rfl rfl rfl mixed (by kernel_rfl) ?_
    refine AtRet.gen _ (StLe.refl _) rfl rfl ?_
    refine AtRange.mk ⟨[], trivial, rfl, rfl, ⟨_, _, _, rfl, Tryz.call173⟩, ?_⟩
    refine spec_of_body (N := 19) (m := 16) (dt := fun _ => none) [] ttOK Tryz.func173 rfl Tryz.call173 Tryz.ntmps173 rfl rfl rfl mixed (by kernel_rfl) ?_
    refine AtLoop.mk ⟨Nat, fun _ => [(3, iS (-1))], fun _ => ⟨ownB g nm imp b1 d1 e1 f1 true, [], [sgR sig a2 c2, mpR g, dzR b1 d1, mdR e1 f1]⟩, fun _ => True, fun x => x, 0, trivial, ⟨rfl, trivial⟩, StLe.refl _, fun _ _ => ⟨rfl, rfl⟩, ?_⟩
    rintro _ _
    refine AtIf.mk (fun h => by simp at h) (fun h => ?_)
    refine AtRet.gen _ (StLe.refl _) rfl rfl ?_
    refine spec_of_body (N := 7) (m := 16) (dt := fun _ => none) [] ttOK Tryz.func99 rfl Tryz.call99 Tryz.ntmps99 rfl rfl rfl mixed (by kernel_rfl) ?_
    refine AtRet.gen _ (StLe.refl _) rfl rfl ?_
    refine spec_of_body (N := 17) (m := 16) (dt := fun _ => none) [] ttOK Tryz.func144 rfl Tryz.call144 Tryz.ntmps144 rfl rfl rfl mixed (by kernel_rfl) ?_
    refine spec_of_body (N := 30) (m := 21) (dt := fun _ => none) [] ttOK Tryz.func170 rfl Tryz.call170 Tryz.ntmps170 rfl rfl rfl mixed (by kernel_rfl) ?_
    refine AtLoop.mk ⟨Int, fun i => [(13, iS i), (12, iS 2), (11, .v (.slice b1 2 d1)), (4, .loc 21 0), (5, .loc 22 0), (2, iS 2), (3, .fn (.func 175) [] [.loc 17 0, .loc 20 0, .loc 16 0])], fun _ => ⟨ownB g nm imp b1 d1 e1 f1 false ++ ownD b1 d1 e1 f1, [], [sgR sig a2 c2, mpR g, dzR b1 d1, mdR e1 f1]⟩, fun i => 0 ≤ i ∧ i ≤ 2, fun i => (2 - i).toNat, 0, by omega, ⟨rfl, rfl, rfl, rfl, rfl, rfl, rfl, trivial⟩, StLe.refl _, fun _ _ => ⟨rfl, rfl⟩, ?_⟩
    rintro i ⟨hi, hi'⟩
    refine AtIf.mk (fun h => ?_) (fun h => ?_)
    · have hi2 : i < 2 := by simpa using h
      have hwi := wrapI hi hi2
      obtain ⟨s, hs⟩ := sg_geti hi hi2
      refine at_index ttOK 2 rfl rfl rfl rfl hi (Tm.encL_get (zz_geti hi hi2)) ?_
      intro b2 d2 _ _
      refine at_index ttOK 3 rfl rfl rfl rfl hi (map_get (D.int .i64) hs) ?_
      refine AtIf.mk (fun h2 => ?_) (fun h2 => ?_)
      · refine spec_of_body (N := 19) (m := 26) (dt := fun _ => none) [] ttOK Tryz.func175 rfl Tryz.call175 Tryz.ntmps175 rfl rfl rfl mixed (by kernel_rfl) ?_
        refine (known0 b2 d2).atR [4] rfl rfl rfl ?_
        rintro _ _ ⟨rfl, rfl⟩
        refine AtIf.mk (fun h => by simp at h) (fun h => ?_)
        refine AtRet.gen _ (StLe.refl _) rfl rfl ?_
        exact ⟨IntKind.i64.wrap (i + 1), by omega, by simp only; omega, ⟨rfl, rfl, rfl, rfl, rfl, rfl, rfl, trivial⟩, StLe.gen 23 [] [.old 0, .old 1, .old 2, .old 3] rfl rfl rfl rfl rfl rfl rfl⟩
      · exact ⟨IntKind.i64.wrap (i + 1), by omega, by simp only; omega, ⟨rfl, rfl, rfl, rfl, rfl, rfl, rfl, trivial⟩, StLe.gen 23 [] [.old 0, .old 1, .old 2, .old 3] rfl rfl rfl rfl rfl rfl rfl⟩
    · refine AtRet.gen _ (StLe.refl _) rfl rfl ?_
      refine AtRet.gen _ (StLe.refl _) rfl rfl ?_
      refine AtRet.gen _ (StLe.refl _) rfl rfl ?_
      exact AtRet.gen ⟨[mpB g], [], []⟩ (StLe.gen 1 [] [] rfl rfl rfl rfl rfl rfl rfl) rfl rfl ⟨rfl, rfl⟩
end Go.Proofs.YtogicnodmgdnbaaGreat
end

/-! McG -/
section
namespace Go.Proofs.YtogicnodmgdnbaaGreat
open Go.Tr Go
set_option maxRecDepth 10000

mutual
theorem sameF_iff14 : ∀ (a b : Tm), sameF a b = true ↔ a = b
  | .mk o h n us, .mk o' h' n' vs => by
    simp only [sameF, Tm.op, Tm.hd, Tm.n, Tm.args, Bool.and_eq_true, beq_iff_eq, Tm.mk.injEq]
    constructor
    · rintro ⟨⟨⟨h1, h2⟩, h3⟩, h4, h5⟩
      exact ⟨h1, h2, h3, (sameL_iff14 us vs h4).1 h5⟩
    · rintro ⟨h1, h2, h3, h4⟩
      exact ⟨⟨⟨h1, h2⟩, h3⟩, by rw [h4], (sameL_iff14 us vs (by rw [h4])).2 h4⟩
theorem sameL_iff14 : ∀ (us vs : List Tm), us.length = vs.length → (sameL us vs = true ↔ us = vs)
  | [], [], _ => by simp [sameL]
  | u :: us, v :: vs, h => by
    simp only [sameL, Bool.and_eq_true, List.cons.injEq, sameF_iff14 u v, sameL_iff14 us vs (by simpa using h)]
  | [], _ :: _, h => by simp at h
  | _ :: _, [], h => by simp at h
 end

/-- The constant dz, and the mode of double. -/
def sampB (sig : List Dc) (k : Int) (g : List (Int × Md)) : Bool := match idx sig k with
  | some d => sameF d.cls dzT && (match mget g 3 with
    | some m => m.family == 3 && m.signs == [1, 2]
    | none => false)
  | none => false
def mode_check (_ : Nat) (sig : List Dc) (k : Int) (g : List (Int × Md)) : Option (Int × Int × Int) := cond (sampB sig k g) (some (0, 0, 0)) none
theorem mode_check_spec (n : Nat) (v1 : (List Dc)) (v3 : Int) (g5 : (List (Int × GE Md))) (a2 : Option Addr) (c2 : Nat) (r : Int × Int × Int) (hr : mode_check n v1 v3 (er g5) = some r) : Meets Tryz.prog (.val (.fn (.func 54) [] [])) [(.v (.slice a2 ((Dc.encL v1).length) c2)), (.mp 0), (.v (.int .i64 v3))] ⟨[.obj (mapO .i64 (encM Md.gv g5))], [], [(.slice a2 ((Dc.encL v1).length) c2, .sl 6 (Dc.encL v1)), (agV 1 Md.gp g5, agD 1 Md.gp g5)]⟩ (fun o S' => o = .ret (.tup [(.v (.int .i64 r.1)), (.v (.int .i64 r.2.1)), (.v (.int .i64 r.2.2))]) ∧ S' = ⟨[.obj (mapO .i64 (encM Md.gv g5))], [], []⟩) := by
  unfold mode_check at hr
  cases hb : sampB v1 v3 (er g5) with
  | false => rw [hb] at hr; cases hr
  | true =>
    rw [hb] at hr
    simp only [cond_true, Option.some.injEq] at hr
    subst hr
    unfold sampB at hb
    split at hb
    · rename_i d hd
      rw [Bool.and_eq_true] at hb
      obtain ⟨h1, h2⟩ := hb
      split at h2
      · rename_i m hm
        simp only [Bool.and_eq_true, beq_iff_eq] at h2
        have hm' : m = ⟨3, [1, 2]⟩ := by cases m; simp only at h2; obtain ⟨rfl, rfl⟩ := h2; rfl
        subst hm'
        exact check0 v1 d v3 g5 a2 c2 hd ((sameF_iff14 _ _).1 h1) hm
      · cases h2
    · cases hb
end Go.Proofs.YtogicnodmgdnbaaGreat
end

/-! G3 -/
section
namespace Go.Proofs.YtogicnodmgdnbaaGreat
open Go.Tr Go
set_option maxRecDepth 10000
set_option linter.unusedVariables false
set_option linter.unusedSimpArgs false

mutual
def mode_Check : Nat → (List Dc) → (List Md) → Int → Option (Int × Int × Int)
  | 0, _, _, _ => none
  | n + 1, v1, v3, v5 =>
    (sign_Check n v1).bind (fun v6 =>
    cond (v6 != 0) (
    some (0, 0, 2)) (
    mode_Check_L1 n v3 v1 v5 ([]) 0))
def mode_Check_L1 : Nat → (List Md) → (List Dc) → Int → (List (Int × Md)) → Int → Option (Int × Int × Int)
  | 0, _, _, _, _, _ => none
  | n + 1, v3, v1, v5, v20, v22 =>
    cond (decide (v22 < ((Md.encL v3).length : Int))) (
    (idx v3 v22).bind (fun v24 =>
    cond ((mget v20 v24.family).isSome) (
    some (0, 0, 2)) (
    (mode_isMode n v1 v24).bind (fun v31 =>
    cond ((!v31) || (decide (((Md.encL v3).length : Int) > 40))) (
    some (0, 0, 2)) (
    mode_Check_L1 n v3 v1 v5 (mput v24.family v24 v20) (IntKind.i64.wrap (v22 + 1))))))) (
    cond ((decide (v5 < 0)) || (decide (v5 ≥ ((Dc.encL v1).length : Int)))) (
    some (0, 0, 6)) (
    (sign_Family n v1 v5).bind (fun v35 =>
    cond v35 (
    some (0, 0, 22)) (
    (mode_check n v1 v5 v20).bind (fun v38 =>
    some (v38.1, v38.2.1, v38.2.2))))))
 end
theorem mode_Check_spec (n : Nat) (v1 : (List Dc)) (v3 : (List Md)) (v5 : Int) (a2 : Option Addr) (c2 : Nat) (a4 : Option Addr) (c4 : Nat) (r : Int × Int × Int) (hr : mode_Check n v1 v3 v5 = some r) : Pure Tryz.prog (.val (.fn (.func 19) [] [])) [(.v (.slice a2 ((Dc.encL v1).length) c2)), (.v (.slice a4 ((Md.encL v3).length) c4)), (.v (.int .i64 v5))] [(.slice a2 ((Dc.encL v1).length) c2, .sl 6 (Dc.encL v1)), (.slice a4 ((Md.encL v3).length) c4, .sl 2 (Md.encL v3))] (fun r' out => r' = (.tup [(.v (.int .i64 r.1)), (.v (.int .i64 r.2.1)), (.v (.int .i64 r.2.2))]) ∧ out = []) := by
  rcases n with _ | n
  · exact no_some hr
  rw [mode_Check.eq_2] at hr
  refine spec_of_body (N := 36) (m := 0) (dt := fun _ => none) [] ttOK Tryz.func19 rfl Tryz.call19 Tryz.ntmps19 rfl rfl rfl mixed (by kernel_rfl) ?_
  obtain ⟨v6, h7, hr⟩ := bind_some hr
  refine (sign_Check_spec n v1 a2 c2 _ h7).atR [0] rfl rfl rfl ?_
  rintro _ _ ⟨rfl, rfl⟩
  refine AtIf.mk (fun h8 => ?_) (fun h8 => ?_)
  · replace hr := cond_t h8 hr
    replace hr := Option.some.inj hr
    subst hr
    exact AtRet.pureG [] [] rfl rfl ⟨rfl, rfl⟩
  · replace hr := cond_f h8 hr
    refine spec_of_body (N := 43) (m := 0) (dt := fun _ => none) [] ttOK Tryz.func52 rfl Tryz.call52 Tryz.ntmps52 rfl rfl rfl mixed (by kernel_rfl) ?_
    refine at_makeMapG .i64 Md.gv 1 Md.gp ?_
    refine AtLoop.mk ⟨Nat × (List (Int × GE Md)) × Int, fun x => [(0, (.v (.slice a2 ((Dc.encL v1).length) c2))), (1, (.v (.slice a4 ((Md.encL v3).length) c4))), (6, (.mp 0)), (12, (.v (.slice a4 ((Md.encL v3).length) c4))), (13, (.v (.int .i64 ((Md.encL v3).length : Int)))), (14, (.v (.int .i64 x.2.2)))], fun x => ⟨[.obj (mapO .i64 (encM Md.gv x.2.1))], [], [(.slice a2 ((Dc.encL v1).length) c2, .sl 6 (Dc.encL v1)), (.slice a4 ((Md.encL v3).length) c4, .sl 2 (Md.encL v3)), (agV 1 Md.gp x.2.1, agD 1 Md.gp x.2.1)]⟩, fun x => mode_Check_L1 x.1 v3 v1 v5 (er x.2.1) x.2.2 = some r, fun x => x.1, (n, ([] : List (Int × GE Md)), 0), hr, ⟨rfl, rfl, rfl, rfl, rfl, rfl, trivial⟩, (StLe.gen 1 [] [.old 0, .old 1, .old 2] rfl rfl rfl rfl rfl rfl rfl), fun x _ => ⟨rfl, rfl⟩, ?_⟩
    rintro ⟨n, g21, v22⟩ HH
    have hr : mode_Check_L1 n v3 v1 v5 (er g21) v22 = some r := HH
    rcases n with _ | n
    · exact no_some hr
    rw [mode_Check_L1.eq_2] at hr
    refine AtIf.mk (fun h23 => ?_) (fun h23 => ?_)
    · replace hr := cond_t h23 hr
      obtain ⟨v24, h25, hr⟩ := bind_some hr
      obtain ⟨h26, h27⟩ := idx_some h25
      refine at_index ttOK 1 rfl rfl rfl rfl h26 (Md.encL_get h27) ?_
      intro a28 c28 _ _
      refine at_lookupGE ttOK Md.gv Md.gk 1 Md.gp (Md.mk 0 ([])) _ 2 rfl Tryz.underlying3 Tryz.zeroValue31 rfl rfl (fun _ _ _ _ => rfl) (fun _ _ _ _ => rfl) rfl rfl rfl rfl ?_
      intro a29 c29
      refine AtGuard.mk (fun h30 => ?_) (fun h30 => ?_)
      · replace hr := cond_f h30 hr
        obtain ⟨v31, h32, hr⟩ := bind_some hr
        refine (mode_isMode_spec n v1 v24 a2 c2 a28 c28 _ h32).atR [0, 3] rfl rfl rfl ?_
        rintro _ _ ⟨rfl, rfl⟩
        refine AtIf.mk (fun h33 => ?_) (fun h33 => ?_)
        · replace hr := cond_t h33 hr
          refine AtRet.gen _ (StLe.refl _) rfl rfl ?_
          refine AtIf.mk (fun _ => ?_) (fun h => tf h)
          replace hr := Option.some.inj hr
          subst hr
          exact AtRet.pureG [] [] rfl rfl ⟨rfl, rfl⟩
        · replace hr := cond_f h33 hr
          refine at_mapPutGE ttOK Md.gv 1 Md.gp v24 a28 c28 2 3 rfl Tryz.underlying3 rfl rfl rfl (fun _ => rfl) rfl rfl rfl ?_
          exact ⟨(n, (mput v24.family (v24, a28, c28) g21), (IntKind.i64.wrap (v22 + 1))), (by simpa only [er_mput] using hr), Nat.lt_succ_self _, ⟨rfl, rfl, rfl, rfl, rfl, rfl, trivial⟩, (StLe.gen 1 [] [.old 0, .old 1, .old 2] rfl rfl rfl rfl rfl rfl rfl)⟩
      · replace hr := cond_t h30 hr
        refine AtIf.mk (fun _ => ?_) (fun h => tf h)
        refine AtRet.gen _ (StLe.refl _) rfl rfl ?_
        refine AtIf.mk (fun _ => ?_) (fun h => tf h)
        replace hr := Option.some.inj hr
        subst hr
        exact AtRet.pureG [] [] rfl rfl ⟨rfl, rfl⟩
    · replace hr := cond_f h23 hr
      refine AtRet.gen _ (StLe.refl _) rfl rfl ?_
      refine AtIf.mk (fun h => ff h) (fun _ => ?_)
      refine spec_of_body (N := 18) (m := 1) (dt := fun _ => none) [] ttOK Tryz.func53 rfl Tryz.call53 Tryz.ntmps53 rfl rfl rfl mixed (by kernel_rfl) ?_
      refine AtIf.mk (fun h34 => ?_) (fun h34 => ?_)
      · replace hr := cond_t h34 hr
        refine AtRet.gen _ (StLe.refl _) rfl rfl ?_
        refine AtIf.mk (fun _ => ?_) (fun h => tf h)
        replace hr := Option.some.inj hr
        subst hr
        exact AtRet.pureG [] [] rfl rfl ⟨rfl, rfl⟩
      · replace hr := cond_f h34 hr
        obtain ⟨v35, h36, hr⟩ := bind_some hr
        refine (sign_Family_spec n v1 v5 a2 c2 _ h36).atR [0] rfl rfl rfl ?_
        rintro _ _ ⟨rfl, rfl⟩
        refine AtIf.mk (fun h37 => ?_) (fun h37 => ?_)
        · replace hr := cond_t h37 hr
          refine AtRet.gen _ (StLe.refl _) rfl rfl ?_
          refine AtIf.mk (fun _ => ?_) (fun h => tf h)
          replace hr := Option.some.inj hr
          subst hr
          exact AtRet.pureG [] [] rfl rfl ⟨rfl, rfl⟩
        · replace hr := cond_f h37 hr
          refine AtRet.gen _ (StLe.refl _) rfl rfl ?_
          refine AtIf.mk (fun h => ff h) (fun _ => ?_)
          obtain ⟨v38, h39, hr⟩ := bind_some hr
          refine (mode_check_spec n v1 v5 g21 a2 c2 _ h39).frameR [0] [0, 2] rfl rfl rfl rfl rfl rfl rfl rfl ?_
          rintro _ _ ⟨rfl, rfl⟩
          refine ⟨rfl, rfl, [.obj (mapO .i64 (encM Md.gv g21))], rfl, ?_⟩
          replace hr := Option.some.inj hr
          subst hr
          exact AtRet.pureG [] [] rfl rfl ⟨rfl, rfl⟩
def R03_App : Nat → Int → Int → (List Tm) → Option (Tm)
  | 0, _, _, _ => none
  | n + 1, v1, v2, v3 =>
    some ((Tm.mk 4 v1 v2 v3))
theorem R03_App_spec (n : Nat) (v1 : Int) (v2 : Int) (v3 : (List Tm)) (a4 : Option Addr) (c4 : Nat) (r : Tm) (hr : R03_App n v1 v2 v3 = some r) : Pure Tryz.prog (.val (.fn (.func 28) [] [])) [(.v (.int .i64 v1)), (.v (.int .i64 v2)), (.v (.slice a4 ((Tm.encL v3).length) c4))] [(.slice a4 ((Tm.encL v3).length) c4, .sl 4 (Tm.encL v3))] (fun r' out => ∃ (b1 : Option Addr) (d1 : Nat), r' = (.agg [(.v (.int .i64 r.op)), (.v (.int .i64 r.hd)), (.v (.int .i64 r.n)), (.v (.slice b1 ((Tm.encL r.args).length) d1))]) ∧ out = [(.slice b1 ((Tm.encL r.args).length) d1, .sl 4 (Tm.encL r.args))]) := by
  rcases n with _ | n
  · exact no_some hr
  rw [R03_App.eq_2] at hr
  refine spec_of_body (N := 11) (m := 0) (dt := fun _ => none) [] ttOK Tryz.func28 rfl Tryz.call28 Tryz.ntmps28 rfl rfl rfl mixed (by kernel_rfl) ?_
  replace hr := Option.some.inj hr
  subst hr
  exact AtRet.pureG [.old 0] [(.slice a4 ((Tm.encL v3).length) c4, .sl 4 (Tm.encL v3))] rfl rfl ⟨a4, c4, rfl, rfl⟩
def R03_Pi : Nat → Tm → Tm → Option (Tm)
  | 0, _, _ => none
  | n + 1, v1, v3 =>
    some ((Tm.mk 2 0 0 ([v1, v3])))
theorem R03_Pi_spec (n : Nat) (v1 : Tm) (v3 : Tm) (a2 : Option Addr) (c2 : Nat) (a4 : Option Addr) (c4 : Nat) (r : Tm) (hr : R03_Pi n v1 v3 = some r) : Pure Tryz.prog (.val (.fn (.func 93) [] [])) [(.agg [(.v (.int .i64 v1.op)), (.v (.int .i64 v1.hd)), (.v (.int .i64 v1.n)), (.v (.slice a2 ((Tm.encL v1.args).length) c2))]), (.agg [(.v (.int .i64 v3.op)), (.v (.int .i64 v3.hd)), (.v (.int .i64 v3.n)), (.v (.slice a4 ((Tm.encL v3.args).length) c4))])] [(.slice a2 ((Tm.encL v1.args).length) c2, .sl 4 (Tm.encL v1.args)), (.slice a4 ((Tm.encL v3.args).length) c4, .sl 4 (Tm.encL v3.args))] (fun r' out => ∃ (b1 : Option Addr) (d1 : Nat), r' = (.agg [(.v (.int .i64 r.op)), (.v (.int .i64 r.hd)), (.v (.int .i64 r.n)), (.v (.slice b1 ((Tm.encL r.args).length) d1))]) ∧ out = [(.slice b1 ((Tm.encL r.args).length) d1, .sl 4 (Tm.encL r.args))]) := by
  rcases n with _ | n
  · exact no_some hr
  rw [R03_Pi.eq_2] at hr
  refine spec_of_body (N := 9) (m := 0) (dt := fun _ => none) [] ttOK Tryz.func93 rfl Tryz.call93 Tryz.ntmps93 rfl rfl rfl mixed (by kernel_rfl) ?_
  refine at_buildG (n := 2) ttOK 48 [.agg [.int .i64 v1.op, .int .i64 v1.hd, .int .i64 v1.n, .sl 4 (Tm.encL v1.args)], .agg [.int .i64 v3.op, .int .i64 v3.hd, .int .i64 v3.n, .sl 4 (Tm.encL v3.args)]] (ds' := (Tm.encL ([v1, v3]))) rfl (by kernel_rfl) ⟨⟨rfl, rfl, rfl, ⟨[(.v (.int .i64 v1.op))], _, rfl, rfl, ⟨[(.v (.int .i64 v1.hd))], _, rfl, rfl, ⟨[(.v (.int .i64 v1.n))], _, rfl, rfl, ⟨[(.v (.slice a2 ((Tm.encL v1.args).length) c2))], _, rfl, (.inl ⟨_, rfl, nth_mem (j := 0) rfl⟩), rfl⟩⟩⟩⟩⟩, ⟨⟨rfl, rfl, rfl, ⟨[(.v (.int .i64 v3.op))], _, rfl, rfl, ⟨[(.v (.int .i64 v3.hd))], _, rfl, rfl, ⟨[(.v (.int .i64 v3.n))], _, rfl, rfl, ⟨[(.v (.slice a4 ((Tm.encL v3.args).length) c4))], _, rfl, (.inl ⟨_, rfl, nth_mem (j := 1) rfl⟩), rfl⟩⟩⟩⟩⟩, trivial⟩⟩ rfl (by simp only [Tm.encL_eq, List.map_cons, List.map_nil, Tm.enc_eq] <;> rfl) (by decide) (by decide) ?_
  intro a5
  replace hr := Option.some.inj hr
  subst hr
  exact AtRet.pureG [.old 2] [(.slice a5 ((Tm.encL ([v1, v3])).length) 2, .sl 4 (Tm.encL ([v1, v3])))] rfl rfl ⟨a5, 2, rfl, rfl⟩
def W14_sample : Nat → Option ((List Dc))
  | 0 => none
  | n + 1 =>
    (R03_App n 2 0 ([])).bind (fun v1 =>
    (R03_App n 2 1 ([])).bind (fun v4 =>
    (R03_Pi n v1 v1).bind (fun v7 =>
    (R03_Pi n v1 (Tm.mk 1 0 0 ([]))).bind (fun v10 =>
    (R03_Pi n v1 v10).bind (fun v13 =>
    (R03_App n 2 3 ([v4, v4])).bind (fun v17 =>
    some ([(Dc.mk (⟨#[110, 97, 116]⟩) (Tm.mk 1 0 0 ([])) 0), (Dc.mk (⟨#[122]⟩) v1 0), (Dc.mk (⟨#[115]⟩) v7 0), (Dc.mk (⟨#[100, 111, 117, 98, 108, 101]⟩) v13 0), (Dc.mk (⟨#[100, 122]⟩) v17 0)])))))))
theorem W14_sample_spec (n : Nat)  (r : (List Dc)) (hr : W14_sample n  = some r) : Pure Tryz.prog (.val (.fn (.func 44) [] [])) [] [] (fun r' out => ∃ (b1 : Option Addr) (d1 : Nat), r' = (.v (.slice b1 ((Dc.encL r).length) d1)) ∧ out = [(.slice b1 ((Dc.encL r).length) d1, .sl 6 (Dc.encL r))]) := by
  rcases n with _ | n
  · exact no_some hr
  rw [W14_sample.eq_2] at hr
  refine spec_of_body (N := 25) (m := 0) (dt := drawsOf [(3, .node [0, 1, 2, 3, 4, 5, 8, 9, 10, 14, 15] [(6, .node [7] [(11, .node [] [(12, .node [13] [(16, .node [] [(17, .node [18] [(19, .leaf [20])])])]), (16, .node [] [(12, .node [13] [(17, .node [18] [(19, .leaf [20])])])])]), (16, .node [] [(11, .node [] [(12, .node [13] [(17, .node [18] [(19, .leaf [20])])])])])]), (16, .node [] [(6, .node [7] [(11, .node [] [(12, .node [13] [(17, .node [18] [(19, .leaf [20])])])])])])], [19], [])]) [] ttOK Tryz.func44 rfl Tryz.call44 Tryz.ntmps44 rfl rfl rfl mixed (by kernel_rfl) ?_
  obtain ⟨v1, h2, hr⟩ := bind_some hr
  refine Meets.nilRep 4 ?_
  refine (R03_App_spec n 2 0 ([]) none 0 _ h2).atR [0] rfl rfl rfl ?_
  rintro _ _ ⟨a3, c3, rfl, rfl⟩
  obtain ⟨v4, h5, hr⟩ := bind_some hr
  refine (R03_App_spec n 2 1 ([]) none 0 _ h5).atR [0] rfl rfl rfl ?_
  rintro _ _ ⟨a6, c6, rfl, rfl⟩
  obtain ⟨v7, h8, hr⟩ := bind_some hr
  obtain ⟨v10, h11, hr⟩ := bind_some hr
  obtain ⟨v13, h14, hr⟩ := bind_some hr
  obtain ⟨v17, h18, hr⟩ := bind_some hr
  refine ⟨?_, ?_⟩
  ·
    refine (R03_Pi_spec n v1 v1 a3 c3 a3 c3 _ h8).atR [1, 1] rfl rfl rfl ?_
    rintro _ _ ⟨a21, c21, rfl, rfl⟩
    refine ⟨fun _ _ h => h, ?_⟩
    refine ⟨?_, ?_⟩
    ·
      refine (R03_Pi_spec n v1 (Tm.mk 1 0 0 ([])) a3 c3 none 0 _ h11).atR [1, 0] rfl rfl rfl ?_
      rintro _ _ ⟨a22, c22, rfl, rfl⟩
      refine ⟨fun _ _ h => h, ?_⟩
      refine ⟨?_, ?_⟩
      ·
        refine (R03_Pi_spec n v1 v10 a3 c3 a22 c22 _ h14).atR [1, 4] rfl rfl rfl ?_
        rintro _ _ ⟨a23, c23, rfl, rfl⟩
        refine ⟨fun _ _ h => h, ?_⟩
        refine at_buildG (n := 2) ttOK 48 [.agg [.int .i64 v4.op, .int .i64 v4.hd, .int .i64 v4.n, .sl 4 (Tm.encL v4.args)], .agg [.int .i64 v4.op, .int .i64 v4.hd, .int .i64 v4.n, .sl 4 (Tm.encL v4.args)]] (ds' := (Tm.encL ([v4, v4]))) rfl (by kernel_rfl) ⟨⟨rfl, rfl, rfl, ⟨[(.v (.int .i64 v4.op))], _, rfl, rfl, ⟨[(.v (.int .i64 v4.hd))], _, rfl, rfl, ⟨[(.v (.int .i64 v4.n))], _, rfl, rfl, ⟨[(.v (.slice a6 ((Tm.encL v4.args).length) c6))], _, rfl, (.inl ⟨_, rfl, nth_mem (j := 2) rfl⟩), rfl⟩⟩⟩⟩⟩, ⟨⟨rfl, rfl, rfl, ⟨[(.v (.int .i64 v4.op))], _, rfl, rfl, ⟨[(.v (.int .i64 v4.hd))], _, rfl, rfl, ⟨[(.v (.int .i64 v4.n))], _, rfl, rfl, ⟨[(.v (.slice a6 ((Tm.encL v4.args).length) c6))], _, rfl, (.inl ⟨_, rfl, nth_mem (j := 2) rfl⟩), rfl⟩⟩⟩⟩⟩, trivial⟩⟩ rfl (by simp only [Tm.encL_eq, List.map_cons, List.map_nil, Tm.enc_eq] <;> rfl) (by decide) (by decide) ?_
        intro a24
        refine ⟨fun _ _ h => h, ?_⟩
        refine (R03_App_spec n 2 3 ([v4, v4]) a24 2 _ h18).atR [6] rfl rfl rfl ?_
        rintro _ _ ⟨a25, c25, rfl, rfl⟩
        refine ⟨fun _ _ h => h, ?_⟩
        refine at_buildG (n := 5) ttOK 72 [.agg [.str (⟨#[110, 97, 116]⟩), .agg [.int .i64 1, .int .i64 0, .int .i64 0, .sl 4 []], .int .i64 0], .agg [.str (⟨#[122]⟩), .agg [.int .i64 v1.op, .int .i64 v1.hd, .int .i64 v1.n, .sl 4 (Tm.encL v1.args)], .int .i64 0], .agg [.str (⟨#[115]⟩), .agg [.int .i64 v7.op, .int .i64 v7.hd, .int .i64 v7.n, .sl 4 (Tm.encL v7.args)], .int .i64 0], .agg [.str (⟨#[100, 111, 117, 98, 108, 101]⟩), .agg [.int .i64 v13.op, .int .i64 v13.hd, .int .i64 v13.n, .sl 4 (Tm.encL v13.args)], .int .i64 0], .agg [.str (⟨#[100, 122]⟩), .agg [.int .i64 v17.op, .int .i64 v17.hd, .int .i64 v17.n, .sl 4 (Tm.encL v17.args)], .int .i64 0]] (ds' := (Dc.encL ([(Dc.mk (⟨#[110, 97, 116]⟩) (Tm.mk 1 0 0 ([])) 0), (Dc.mk (⟨#[122]⟩) v1 0), (Dc.mk (⟨#[115]⟩) v7 0), (Dc.mk (⟨#[100, 111, 117, 98, 108, 101]⟩) v13 0), (Dc.mk (⟨#[100, 122]⟩) v17 0)]))) rfl (by kernel_rfl) ⟨⟨rfl, rfl, rfl, ⟨[(.v (.string (⟨#[110, 97, 116]⟩)))], _, rfl, rfl, ⟨[(.v (.int .i64 1)), (.v (.int .i64 0)), (.v (.int .i64 0)), (.v (.slice none 0 0))], _, rfl, ⟨[(.v (.int .i64 1))], _, rfl, rfl, ⟨[(.v (.int .i64 0))], _, rfl, rfl, ⟨[(.v (.int .i64 0))], _, rfl, rfl, ⟨[(.v (.slice none 0 0))], _, rfl, (.inr ⟨rfl, rfl⟩), rfl⟩⟩⟩⟩, ⟨[(.v (.int .i64 0))], _, rfl, rfl, rfl⟩⟩⟩⟩, ⟨⟨rfl, rfl, rfl, ⟨[(.v (.string (⟨#[122]⟩)))], _, rfl, rfl, ⟨[(.v (.int .i64 v1.op)), (.v (.int .i64 v1.hd)), (.v (.int .i64 v1.n)), (.v (.slice a3 ((Tm.encL v1.args).length) c3))], _, rfl, ⟨[(.v (.int .i64 v1.op))], _, rfl, rfl, ⟨[(.v (.int .i64 v1.hd))], _, rfl, rfl, ⟨[(.v (.int .i64 v1.n))], _, rfl, rfl, ⟨[(.v (.slice a3 ((Tm.encL v1.args).length) c3))], _, rfl, (.inl ⟨_, rfl, nth_mem (j := 1) rfl⟩), rfl⟩⟩⟩⟩, ⟨[(.v (.int .i64 0))], _, rfl, rfl, rfl⟩⟩⟩⟩, ⟨⟨rfl, rfl, rfl, ⟨[(.v (.string (⟨#[115]⟩)))], _, rfl, rfl, ⟨[(.v (.int .i64 v7.op)), (.v (.int .i64 v7.hd)), (.v (.int .i64 v7.n)), (.v (.slice a21 ((Tm.encL v7.args).length) c21))], _, rfl, ⟨[(.v (.int .i64 v7.op))], _, rfl, rfl, ⟨[(.v (.int .i64 v7.hd))], _, rfl, rfl, ⟨[(.v (.int .i64 v7.n))], _, rfl, rfl, ⟨[(.v (.slice a21 ((Tm.encL v7.args).length) c21))], _, rfl, (.inl ⟨_, rfl, nth_mem (j := 3) rfl⟩), rfl⟩⟩⟩⟩, ⟨[(.v (.int .i64 0))], _, rfl, rfl, rfl⟩⟩⟩⟩, ⟨⟨rfl, rfl, rfl, ⟨[(.v (.string (⟨#[100, 111, 117, 98, 108, 101]⟩)))], _, rfl, rfl, ⟨[(.v (.int .i64 v13.op)), (.v (.int .i64 v13.hd)), (.v (.int .i64 v13.n)), (.v (.slice a23 ((Tm.encL v13.args).length) c23))], _, rfl, ⟨[(.v (.int .i64 v13.op))], _, rfl, rfl, ⟨[(.v (.int .i64 v13.hd))], _, rfl, rfl, ⟨[(.v (.int .i64 v13.n))], _, rfl, rfl, ⟨[(.v (.slice a23 ((Tm.encL v13.args).length) c23))], _, rfl, (.inl ⟨_, rfl, nth_mem (j := 5) rfl⟩), rfl⟩⟩⟩⟩, ⟨[(.v (.int .i64 0))], _, rfl, rfl, rfl⟩⟩⟩⟩, ⟨⟨rfl, rfl, rfl, ⟨[(.v (.string (⟨#[100, 122]⟩)))], _, rfl, rfl, ⟨[(.v (.int .i64 v17.op)), (.v (.int .i64 v17.hd)), (.v (.int .i64 v17.n)), (.v (.slice a25 ((Tm.encL v17.args).length) c25))], _, rfl, ⟨[(.v (.int .i64 v17.op))], _, rfl, rfl, ⟨[(.v (.int .i64 v17.hd))], _, rfl, rfl, ⟨[(.v (.int .i64 v17.n))], _, rfl, rfl, ⟨[(.v (.slice a25 ((Tm.encL v17.args).length) c25))], _, rfl, (.inl ⟨_, rfl, nth_mem (j := 7) rfl⟩), rfl⟩⟩⟩⟩, ⟨[(.v (.int .i64 0))], _, rfl, rfl, rfl⟩⟩⟩⟩, trivial⟩⟩⟩⟩⟩ rfl (by simp only [Dc.encL_eq, List.map_cons, List.map_nil, Dc.enc_eq] <;> rfl) (by decide) (by decide) ?_
        intro a26
        replace hr := Option.some.inj hr
        subst hr
        exact AtRet.pureG [.old 8] [(.slice a26 ((Dc.encL ([(Dc.mk (⟨#[110, 97, 116]⟩) (Tm.mk 1 0 0 ([])) 0), (Dc.mk (⟨#[122]⟩) v1 0), (Dc.mk (⟨#[115]⟩) v7 0), (Dc.mk (⟨#[100, 111, 117, 98, 108, 101]⟩) v13 0), (Dc.mk (⟨#[100, 122]⟩) v17 0)])).length) 5, .sl 6 (Dc.encL ([(Dc.mk (⟨#[110, 97, 116]⟩) (Tm.mk 1 0 0 ([])) 0), (Dc.mk (⟨#[122]⟩) v1 0), (Dc.mk (⟨#[115]⟩) v7 0), (Dc.mk (⟨#[100, 111, 117, 98, 108, 101]⟩) v13 0), (Dc.mk (⟨#[100, 122]⟩) v17 0)])))] rfl rfl ⟨a26, 5, rfl, rfl⟩
      ·
        refine at_buildG (n := 2) ttOK 48 [.agg [.int .i64 v4.op, .int .i64 v4.hd, .int .i64 v4.n, .sl 4 (Tm.encL v4.args)], .agg [.int .i64 v4.op, .int .i64 v4.hd, .int .i64 v4.n, .sl 4 (Tm.encL v4.args)]] (ds' := (Tm.encL ([v4, v4]))) rfl (by kernel_rfl) ⟨⟨rfl, rfl, rfl, ⟨[(.v (.int .i64 v4.op))], _, rfl, rfl, ⟨[(.v (.int .i64 v4.hd))], _, rfl, rfl, ⟨[(.v (.int .i64 v4.n))], _, rfl, rfl, ⟨[(.v (.slice a6 ((Tm.encL v4.args).length) c6))], _, rfl, (.inl ⟨_, rfl, nth_mem (j := 2) rfl⟩), rfl⟩⟩⟩⟩⟩, ⟨⟨rfl, rfl, rfl, ⟨[(.v (.int .i64 v4.op))], _, rfl, rfl, ⟨[(.v (.int .i64 v4.hd))], _, rfl, rfl, ⟨[(.v (.int .i64 v4.n))], _, rfl, rfl, ⟨[(.v (.slice a6 ((Tm.encL v4.args).length) c6))], _, rfl, (.inl ⟨_, rfl, nth_mem (j := 2) rfl⟩), rfl⟩⟩⟩⟩⟩, trivial⟩⟩ rfl (by simp only [Tm.encL_eq, List.map_cons, List.map_nil, Tm.enc_eq] <;> rfl) (by decide) (by decide) ?_
        intro a27
        refine ⟨fun _ _ h => h, ?_⟩
        refine (R03_Pi_spec n v1 v10 a3 c3 a22 c22 _ h14).atR [1, 4] rfl rfl rfl ?_
        rintro _ _ ⟨a28, c28, rfl, rfl⟩
        refine ⟨fun _ _ h => h, ?_⟩
        refine (R03_App_spec n 2 3 ([v4, v4]) a27 2 _ h18).atR [5] rfl rfl rfl ?_
        rintro _ _ ⟨a29, c29, rfl, rfl⟩
        refine ⟨fun _ _ h => h, ?_⟩
        refine at_buildG (n := 5) ttOK 72 [.agg [.str (⟨#[110, 97, 116]⟩), .agg [.int .i64 1, .int .i64 0, .int .i64 0, .sl 4 []], .int .i64 0], .agg [.str (⟨#[122]⟩), .agg [.int .i64 v1.op, .int .i64 v1.hd, .int .i64 v1.n, .sl 4 (Tm.encL v1.args)], .int .i64 0], .agg [.str (⟨#[115]⟩), .agg [.int .i64 v7.op, .int .i64 v7.hd, .int .i64 v7.n, .sl 4 (Tm.encL v7.args)], .int .i64 0], .agg [.str (⟨#[100, 111, 117, 98, 108, 101]⟩), .agg [.int .i64 v13.op, .int .i64 v13.hd, .int .i64 v13.n, .sl 4 (Tm.encL v13.args)], .int .i64 0], .agg [.str (⟨#[100, 122]⟩), .agg [.int .i64 v17.op, .int .i64 v17.hd, .int .i64 v17.n, .sl 4 (Tm.encL v17.args)], .int .i64 0]] (ds' := (Dc.encL ([(Dc.mk (⟨#[110, 97, 116]⟩) (Tm.mk 1 0 0 ([])) 0), (Dc.mk (⟨#[122]⟩) v1 0), (Dc.mk (⟨#[115]⟩) v7 0), (Dc.mk (⟨#[100, 111, 117, 98, 108, 101]⟩) v13 0), (Dc.mk (⟨#[100, 122]⟩) v17 0)]))) rfl (by kernel_rfl) ⟨⟨rfl, rfl, rfl, ⟨[(.v (.string (⟨#[110, 97, 116]⟩)))], _, rfl, rfl, ⟨[(.v (.int .i64 1)), (.v (.int .i64 0)), (.v (.int .i64 0)), (.v (.slice none 0 0))], _, rfl, ⟨[(.v (.int .i64 1))], _, rfl, rfl, ⟨[(.v (.int .i64 0))], _, rfl, rfl, ⟨[(.v (.int .i64 0))], _, rfl, rfl, ⟨[(.v (.slice none 0 0))], _, rfl, (.inr ⟨rfl, rfl⟩), rfl⟩⟩⟩⟩, ⟨[(.v (.int .i64 0))], _, rfl, rfl, rfl⟩⟩⟩⟩, ⟨⟨rfl, rfl, rfl, ⟨[(.v (.string (⟨#[122]⟩)))], _, rfl, rfl, ⟨[(.v (.int .i64 v1.op)), (.v (.int .i64 v1.hd)), (.v (.int .i64 v1.n)), (.v (.slice a3 ((Tm.encL v1.args).length) c3))], _, rfl, ⟨[(.v (.int .i64 v1.op))], _, rfl, rfl, ⟨[(.v (.int .i64 v1.hd))], _, rfl, rfl, ⟨[(.v (.int .i64 v1.n))], _, rfl, rfl, ⟨[(.v (.slice a3 ((Tm.encL v1.args).length) c3))], _, rfl, (.inl ⟨_, rfl, nth_mem (j := 1) rfl⟩), rfl⟩⟩⟩⟩, ⟨[(.v (.int .i64 0))], _, rfl, rfl, rfl⟩⟩⟩⟩, ⟨⟨rfl, rfl, rfl, ⟨[(.v (.string (⟨#[115]⟩)))], _, rfl, rfl, ⟨[(.v (.int .i64 v7.op)), (.v (.int .i64 v7.hd)), (.v (.int .i64 v7.n)), (.v (.slice a21 ((Tm.encL v7.args).length) c21))], _, rfl, ⟨[(.v (.int .i64 v7.op))], _, rfl, rfl, ⟨[(.v (.int .i64 v7.hd))], _, rfl, rfl, ⟨[(.v (.int .i64 v7.n))], _, rfl, rfl, ⟨[(.v (.slice a21 ((Tm.encL v7.args).length) c21))], _, rfl, (.inl ⟨_, rfl, nth_mem (j := 3) rfl⟩), rfl⟩⟩⟩⟩, ⟨[(.v (.int .i64 0))], _, rfl, rfl, rfl⟩⟩⟩⟩, ⟨⟨rfl, rfl, rfl, ⟨[(.v (.string (⟨#[100, 111, 117, 98, 108, 101]⟩)))], _, rfl, rfl, ⟨[(.v (.int .i64 v13.op)), (.v (.int .i64 v13.hd)), (.v (.int .i64 v13.n)), (.v (.slice a28 ((Tm.encL v13.args).length) c28))], _, rfl, ⟨[(.v (.int .i64 v13.op))], _, rfl, rfl, ⟨[(.v (.int .i64 v13.hd))], _, rfl, rfl, ⟨[(.v (.int .i64 v13.n))], _, rfl, rfl, ⟨[(.v (.slice a28 ((Tm.encL v13.args).length) c28))], _, rfl, (.inl ⟨_, rfl, nth_mem (j := 6) rfl⟩), rfl⟩⟩⟩⟩, ⟨[(.v (.int .i64 0))], _, rfl, rfl, rfl⟩⟩⟩⟩, ⟨⟨rfl, rfl, rfl, ⟨[(.v (.string (⟨#[100, 122]⟩)))], _, rfl, rfl, ⟨[(.v (.int .i64 v17.op)), (.v (.int .i64 v17.hd)), (.v (.int .i64 v17.n)), (.v (.slice a29 ((Tm.encL v17.args).length) c29))], _, rfl, ⟨[(.v (.int .i64 v17.op))], _, rfl, rfl, ⟨[(.v (.int .i64 v17.hd))], _, rfl, rfl, ⟨[(.v (.int .i64 v17.n))], _, rfl, rfl, ⟨[(.v (.slice a29 ((Tm.encL v17.args).length) c29))], _, rfl, (.inl ⟨_, rfl, nth_mem (j := 7) rfl⟩), rfl⟩⟩⟩⟩, ⟨[(.v (.int .i64 0))], _, rfl, rfl, rfl⟩⟩⟩⟩, trivial⟩⟩⟩⟩⟩ rfl (by simp only [Dc.encL_eq, List.map_cons, List.map_nil, Dc.enc_eq] <;> rfl) (by decide) (by decide) ?_
        intro a30
        replace hr := Option.some.inj hr
        subst hr
        exact AtRet.pureG [.old 8] [(.slice a30 ((Dc.encL ([(Dc.mk (⟨#[110, 97, 116]⟩) (Tm.mk 1 0 0 ([])) 0), (Dc.mk (⟨#[122]⟩) v1 0), (Dc.mk (⟨#[115]⟩) v7 0), (Dc.mk (⟨#[100, 111, 117, 98, 108, 101]⟩) v13 0), (Dc.mk (⟨#[100, 122]⟩) v17 0)])).length) 5, .sl 6 (Dc.encL ([(Dc.mk (⟨#[110, 97, 116]⟩) (Tm.mk 1 0 0 ([])) 0), (Dc.mk (⟨#[122]⟩) v1 0), (Dc.mk (⟨#[115]⟩) v7 0), (Dc.mk (⟨#[100, 111, 117, 98, 108, 101]⟩) v13 0), (Dc.mk (⟨#[100, 122]⟩) v17 0)])))] rfl rfl ⟨a30, 5, rfl, rfl⟩
    ·
      refine at_buildG (n := 2) ttOK 48 [.agg [.int .i64 v4.op, .int .i64 v4.hd, .int .i64 v4.n, .sl 4 (Tm.encL v4.args)], .agg [.int .i64 v4.op, .int .i64 v4.hd, .int .i64 v4.n, .sl 4 (Tm.encL v4.args)]] (ds' := (Tm.encL ([v4, v4]))) rfl (by kernel_rfl) ⟨⟨rfl, rfl, rfl, ⟨[(.v (.int .i64 v4.op))], _, rfl, rfl, ⟨[(.v (.int .i64 v4.hd))], _, rfl, rfl, ⟨[(.v (.int .i64 v4.n))], _, rfl, rfl, ⟨[(.v (.slice a6 ((Tm.encL v4.args).length) c6))], _, rfl, (.inl ⟨_, rfl, nth_mem (j := 2) rfl⟩), rfl⟩⟩⟩⟩⟩, ⟨⟨rfl, rfl, rfl, ⟨[(.v (.int .i64 v4.op))], _, rfl, rfl, ⟨[(.v (.int .i64 v4.hd))], _, rfl, rfl, ⟨[(.v (.int .i64 v4.n))], _, rfl, rfl, ⟨[(.v (.slice a6 ((Tm.encL v4.args).length) c6))], _, rfl, (.inl ⟨_, rfl, nth_mem (j := 2) rfl⟩), rfl⟩⟩⟩⟩⟩, trivial⟩⟩ rfl (by simp only [Tm.encL_eq, List.map_cons, List.map_nil, Tm.enc_eq] <;> rfl) (by decide) (by decide) ?_
      intro a31
      refine ⟨fun _ _ h => h, ?_⟩
      refine (R03_Pi_spec n v1 (Tm.mk 1 0 0 ([])) a3 c3 none 0 _ h11).atR [1, 0] rfl rfl rfl ?_
      rintro _ _ ⟨a32, c32, rfl, rfl⟩
      refine ⟨fun _ _ h => h, ?_⟩
      refine (R03_Pi_spec n v1 v10 a3 c3 a32 c32 _ h14).atR [1, 5] rfl rfl rfl ?_
      rintro _ _ ⟨a33, c33, rfl, rfl⟩
      refine ⟨fun _ _ h => h, ?_⟩
      refine (R03_App_spec n 2 3 ([v4, v4]) a31 2 _ h18).atR [4] rfl rfl rfl ?_
      rintro _ _ ⟨a34, c34, rfl, rfl⟩
      refine ⟨fun _ _ h => h, ?_⟩
      refine at_buildG (n := 5) ttOK 72 [.agg [.str (⟨#[110, 97, 116]⟩), .agg [.int .i64 1, .int .i64 0, .int .i64 0, .sl 4 []], .int .i64 0], .agg [.str (⟨#[122]⟩), .agg [.int .i64 v1.op, .int .i64 v1.hd, .int .i64 v1.n, .sl 4 (Tm.encL v1.args)], .int .i64 0], .agg [.str (⟨#[115]⟩), .agg [.int .i64 v7.op, .int .i64 v7.hd, .int .i64 v7.n, .sl 4 (Tm.encL v7.args)], .int .i64 0], .agg [.str (⟨#[100, 111, 117, 98, 108, 101]⟩), .agg [.int .i64 v13.op, .int .i64 v13.hd, .int .i64 v13.n, .sl 4 (Tm.encL v13.args)], .int .i64 0], .agg [.str (⟨#[100, 122]⟩), .agg [.int .i64 v17.op, .int .i64 v17.hd, .int .i64 v17.n, .sl 4 (Tm.encL v17.args)], .int .i64 0]] (ds' := (Dc.encL ([(Dc.mk (⟨#[110, 97, 116]⟩) (Tm.mk 1 0 0 ([])) 0), (Dc.mk (⟨#[122]⟩) v1 0), (Dc.mk (⟨#[115]⟩) v7 0), (Dc.mk (⟨#[100, 111, 117, 98, 108, 101]⟩) v13 0), (Dc.mk (⟨#[100, 122]⟩) v17 0)]))) rfl (by kernel_rfl) ⟨⟨rfl, rfl, rfl, ⟨[(.v (.string (⟨#[110, 97, 116]⟩)))], _, rfl, rfl, ⟨[(.v (.int .i64 1)), (.v (.int .i64 0)), (.v (.int .i64 0)), (.v (.slice none 0 0))], _, rfl, ⟨[(.v (.int .i64 1))], _, rfl, rfl, ⟨[(.v (.int .i64 0))], _, rfl, rfl, ⟨[(.v (.int .i64 0))], _, rfl, rfl, ⟨[(.v (.slice none 0 0))], _, rfl, (.inr ⟨rfl, rfl⟩), rfl⟩⟩⟩⟩, ⟨[(.v (.int .i64 0))], _, rfl, rfl, rfl⟩⟩⟩⟩, ⟨⟨rfl, rfl, rfl, ⟨[(.v (.string (⟨#[122]⟩)))], _, rfl, rfl, ⟨[(.v (.int .i64 v1.op)), (.v (.int .i64 v1.hd)), (.v (.int .i64 v1.n)), (.v (.slice a3 ((Tm.encL v1.args).length) c3))], _, rfl, ⟨[(.v (.int .i64 v1.op))], _, rfl, rfl, ⟨[(.v (.int .i64 v1.hd))], _, rfl, rfl, ⟨[(.v (.int .i64 v1.n))], _, rfl, rfl, ⟨[(.v (.slice a3 ((Tm.encL v1.args).length) c3))], _, rfl, (.inl ⟨_, rfl, nth_mem (j := 1) rfl⟩), rfl⟩⟩⟩⟩, ⟨[(.v (.int .i64 0))], _, rfl, rfl, rfl⟩⟩⟩⟩, ⟨⟨rfl, rfl, rfl, ⟨[(.v (.string (⟨#[115]⟩)))], _, rfl, rfl, ⟨[(.v (.int .i64 v7.op)), (.v (.int .i64 v7.hd)), (.v (.int .i64 v7.n)), (.v (.slice a21 ((Tm.encL v7.args).length) c21))], _, rfl, ⟨[(.v (.int .i64 v7.op))], _, rfl, rfl, ⟨[(.v (.int .i64 v7.hd))], _, rfl, rfl, ⟨[(.v (.int .i64 v7.n))], _, rfl, rfl, ⟨[(.v (.slice a21 ((Tm.encL v7.args).length) c21))], _, rfl, (.inl ⟨_, rfl, nth_mem (j := 3) rfl⟩), rfl⟩⟩⟩⟩, ⟨[(.v (.int .i64 0))], _, rfl, rfl, rfl⟩⟩⟩⟩, ⟨⟨rfl, rfl, rfl, ⟨[(.v (.string (⟨#[100, 111, 117, 98, 108, 101]⟩)))], _, rfl, rfl, ⟨[(.v (.int .i64 v13.op)), (.v (.int .i64 v13.hd)), (.v (.int .i64 v13.n)), (.v (.slice a33 ((Tm.encL v13.args).length) c33))], _, rfl, ⟨[(.v (.int .i64 v13.op))], _, rfl, rfl, ⟨[(.v (.int .i64 v13.hd))], _, rfl, rfl, ⟨[(.v (.int .i64 v13.n))], _, rfl, rfl, ⟨[(.v (.slice a33 ((Tm.encL v13.args).length) c33))], _, rfl, (.inl ⟨_, rfl, nth_mem (j := 6) rfl⟩), rfl⟩⟩⟩⟩, ⟨[(.v (.int .i64 0))], _, rfl, rfl, rfl⟩⟩⟩⟩, ⟨⟨rfl, rfl, rfl, ⟨[(.v (.string (⟨#[100, 122]⟩)))], _, rfl, rfl, ⟨[(.v (.int .i64 v17.op)), (.v (.int .i64 v17.hd)), (.v (.int .i64 v17.n)), (.v (.slice a34 ((Tm.encL v17.args).length) c34))], _, rfl, ⟨[(.v (.int .i64 v17.op))], _, rfl, rfl, ⟨[(.v (.int .i64 v17.hd))], _, rfl, rfl, ⟨[(.v (.int .i64 v17.n))], _, rfl, rfl, ⟨[(.v (.slice a34 ((Tm.encL v17.args).length) c34))], _, rfl, (.inl ⟨_, rfl, nth_mem (j := 7) rfl⟩), rfl⟩⟩⟩⟩, ⟨[(.v (.int .i64 0))], _, rfl, rfl, rfl⟩⟩⟩⟩, trivial⟩⟩⟩⟩⟩ rfl (by simp only [Dc.encL_eq, List.map_cons, List.map_nil, Dc.enc_eq] <;> rfl) (by decide) (by decide) ?_
      intro a35
      replace hr := Option.some.inj hr
      subst hr
      exact AtRet.pureG [.old 8] [(.slice a35 ((Dc.encL ([(Dc.mk (⟨#[110, 97, 116]⟩) (Tm.mk 1 0 0 ([])) 0), (Dc.mk (⟨#[122]⟩) v1 0), (Dc.mk (⟨#[115]⟩) v7 0), (Dc.mk (⟨#[100, 111, 117, 98, 108, 101]⟩) v13 0), (Dc.mk (⟨#[100, 122]⟩) v17 0)])).length) 5, .sl 6 (Dc.encL ([(Dc.mk (⟨#[110, 97, 116]⟩) (Tm.mk 1 0 0 ([])) 0), (Dc.mk (⟨#[122]⟩) v1 0), (Dc.mk (⟨#[115]⟩) v7 0), (Dc.mk (⟨#[100, 111, 117, 98, 108, 101]⟩) v13 0), (Dc.mk (⟨#[100, 122]⟩) v17 0)])))] rfl rfl ⟨a35, 5, rfl, rfl⟩
  ·
    refine at_buildG (n := 2) ttOK 48 [.agg [.int .i64 v4.op, .int .i64 v4.hd, .int .i64 v4.n, .sl 4 (Tm.encL v4.args)], .agg [.int .i64 v4.op, .int .i64 v4.hd, .int .i64 v4.n, .sl 4 (Tm.encL v4.args)]] (ds' := (Tm.encL ([v4, v4]))) rfl (by kernel_rfl) ⟨⟨rfl, rfl, rfl, ⟨[(.v (.int .i64 v4.op))], _, rfl, rfl, ⟨[(.v (.int .i64 v4.hd))], _, rfl, rfl, ⟨[(.v (.int .i64 v4.n))], _, rfl, rfl, ⟨[(.v (.slice a6 ((Tm.encL v4.args).length) c6))], _, rfl, (.inl ⟨_, rfl, nth_mem (j := 2) rfl⟩), rfl⟩⟩⟩⟩⟩, ⟨⟨rfl, rfl, rfl, ⟨[(.v (.int .i64 v4.op))], _, rfl, rfl, ⟨[(.v (.int .i64 v4.hd))], _, rfl, rfl, ⟨[(.v (.int .i64 v4.n))], _, rfl, rfl, ⟨[(.v (.slice a6 ((Tm.encL v4.args).length) c6))], _, rfl, (.inl ⟨_, rfl, nth_mem (j := 2) rfl⟩), rfl⟩⟩⟩⟩⟩, trivial⟩⟩ rfl (by simp only [Tm.encL_eq, List.map_cons, List.map_nil, Tm.enc_eq] <;> rfl) (by decide) (by decide) ?_
    intro a36
    refine ⟨fun _ _ h => h, ?_⟩
    refine (R03_Pi_spec n v1 v1 a3 c3 a3 c3 _ h8).atR [1, 1] rfl rfl rfl ?_
    rintro _ _ ⟨a37, c37, rfl, rfl⟩
    refine ⟨fun _ _ h => h, ?_⟩
    refine (R03_Pi_spec n v1 (Tm.mk 1 0 0 ([])) a3 c3 none 0 _ h11).atR [1, 0] rfl rfl rfl ?_
    rintro _ _ ⟨a38, c38, rfl, rfl⟩
    refine ⟨fun _ _ h => h, ?_⟩
    refine (R03_Pi_spec n v1 v10 a3 c3 a38 c38 _ h14).atR [1, 5] rfl rfl rfl ?_
    rintro _ _ ⟨a39, c39, rfl, rfl⟩
    refine ⟨fun _ _ h => h, ?_⟩
    refine (R03_App_spec n 2 3 ([v4, v4]) a36 2 _ h18).atR [3] rfl rfl rfl ?_
    rintro _ _ ⟨a40, c40, rfl, rfl⟩
    refine ⟨fun _ _ h => h, ?_⟩
    refine at_buildG (n := 5) ttOK 72 [.agg [.str (⟨#[110, 97, 116]⟩), .agg [.int .i64 1, .int .i64 0, .int .i64 0, .sl 4 []], .int .i64 0], .agg [.str (⟨#[122]⟩), .agg [.int .i64 v1.op, .int .i64 v1.hd, .int .i64 v1.n, .sl 4 (Tm.encL v1.args)], .int .i64 0], .agg [.str (⟨#[115]⟩), .agg [.int .i64 v7.op, .int .i64 v7.hd, .int .i64 v7.n, .sl 4 (Tm.encL v7.args)], .int .i64 0], .agg [.str (⟨#[100, 111, 117, 98, 108, 101]⟩), .agg [.int .i64 v13.op, .int .i64 v13.hd, .int .i64 v13.n, .sl 4 (Tm.encL v13.args)], .int .i64 0], .agg [.str (⟨#[100, 122]⟩), .agg [.int .i64 v17.op, .int .i64 v17.hd, .int .i64 v17.n, .sl 4 (Tm.encL v17.args)], .int .i64 0]] (ds' := (Dc.encL ([(Dc.mk (⟨#[110, 97, 116]⟩) (Tm.mk 1 0 0 ([])) 0), (Dc.mk (⟨#[122]⟩) v1 0), (Dc.mk (⟨#[115]⟩) v7 0), (Dc.mk (⟨#[100, 111, 117, 98, 108, 101]⟩) v13 0), (Dc.mk (⟨#[100, 122]⟩) v17 0)]))) rfl (by kernel_rfl) ⟨⟨rfl, rfl, rfl, ⟨[(.v (.string (⟨#[110, 97, 116]⟩)))], _, rfl, rfl, ⟨[(.v (.int .i64 1)), (.v (.int .i64 0)), (.v (.int .i64 0)), (.v (.slice none 0 0))], _, rfl, ⟨[(.v (.int .i64 1))], _, rfl, rfl, ⟨[(.v (.int .i64 0))], _, rfl, rfl, ⟨[(.v (.int .i64 0))], _, rfl, rfl, ⟨[(.v (.slice none 0 0))], _, rfl, (.inr ⟨rfl, rfl⟩), rfl⟩⟩⟩⟩, ⟨[(.v (.int .i64 0))], _, rfl, rfl, rfl⟩⟩⟩⟩, ⟨⟨rfl, rfl, rfl, ⟨[(.v (.string (⟨#[122]⟩)))], _, rfl, rfl, ⟨[(.v (.int .i64 v1.op)), (.v (.int .i64 v1.hd)), (.v (.int .i64 v1.n)), (.v (.slice a3 ((Tm.encL v1.args).length) c3))], _, rfl, ⟨[(.v (.int .i64 v1.op))], _, rfl, rfl, ⟨[(.v (.int .i64 v1.hd))], _, rfl, rfl, ⟨[(.v (.int .i64 v1.n))], _, rfl, rfl, ⟨[(.v (.slice a3 ((Tm.encL v1.args).length) c3))], _, rfl, (.inl ⟨_, rfl, nth_mem (j := 1) rfl⟩), rfl⟩⟩⟩⟩, ⟨[(.v (.int .i64 0))], _, rfl, rfl, rfl⟩⟩⟩⟩, ⟨⟨rfl, rfl, rfl, ⟨[(.v (.string (⟨#[115]⟩)))], _, rfl, rfl, ⟨[(.v (.int .i64 v7.op)), (.v (.int .i64 v7.hd)), (.v (.int .i64 v7.n)), (.v (.slice a37 ((Tm.encL v7.args).length) c37))], _, rfl, ⟨[(.v (.int .i64 v7.op))], _, rfl, rfl, ⟨[(.v (.int .i64 v7.hd))], _, rfl, rfl, ⟨[(.v (.int .i64 v7.n))], _, rfl, rfl, ⟨[(.v (.slice a37 ((Tm.encL v7.args).length) c37))], _, rfl, (.inl ⟨_, rfl, nth_mem (j := 4) rfl⟩), rfl⟩⟩⟩⟩, ⟨[(.v (.int .i64 0))], _, rfl, rfl, rfl⟩⟩⟩⟩, ⟨⟨rfl, rfl, rfl, ⟨[(.v (.string (⟨#[100, 111, 117, 98, 108, 101]⟩)))], _, rfl, rfl, ⟨[(.v (.int .i64 v13.op)), (.v (.int .i64 v13.hd)), (.v (.int .i64 v13.n)), (.v (.slice a39 ((Tm.encL v13.args).length) c39))], _, rfl, ⟨[(.v (.int .i64 v13.op))], _, rfl, rfl, ⟨[(.v (.int .i64 v13.hd))], _, rfl, rfl, ⟨[(.v (.int .i64 v13.n))], _, rfl, rfl, ⟨[(.v (.slice a39 ((Tm.encL v13.args).length) c39))], _, rfl, (.inl ⟨_, rfl, nth_mem (j := 6) rfl⟩), rfl⟩⟩⟩⟩, ⟨[(.v (.int .i64 0))], _, rfl, rfl, rfl⟩⟩⟩⟩, ⟨⟨rfl, rfl, rfl, ⟨[(.v (.string (⟨#[100, 122]⟩)))], _, rfl, rfl, ⟨[(.v (.int .i64 v17.op)), (.v (.int .i64 v17.hd)), (.v (.int .i64 v17.n)), (.v (.slice a40 ((Tm.encL v17.args).length) c40))], _, rfl, ⟨[(.v (.int .i64 v17.op))], _, rfl, rfl, ⟨[(.v (.int .i64 v17.hd))], _, rfl, rfl, ⟨[(.v (.int .i64 v17.n))], _, rfl, rfl, ⟨[(.v (.slice a40 ((Tm.encL v17.args).length) c40))], _, rfl, (.inl ⟨_, rfl, nth_mem (j := 7) rfl⟩), rfl⟩⟩⟩⟩, ⟨[(.v (.int .i64 0))], _, rfl, rfl, rfl⟩⟩⟩⟩, trivial⟩⟩⟩⟩⟩ rfl (by simp only [Dc.encL_eq, List.map_cons, List.map_nil, Dc.enc_eq] <;> rfl) (by decide) (by decide) ?_
    intro a41
    replace hr := Option.some.inj hr
    subst hr
    exact AtRet.pureG [.old 8] [(.slice a41 ((Dc.encL ([(Dc.mk (⟨#[110, 97, 116]⟩) (Tm.mk 1 0 0 ([])) 0), (Dc.mk (⟨#[122]⟩) v1 0), (Dc.mk (⟨#[115]⟩) v7 0), (Dc.mk (⟨#[100, 111, 117, 98, 108, 101]⟩) v13 0), (Dc.mk (⟨#[100, 122]⟩) v17 0)])).length) 5, .sl 6 (Dc.encL ([(Dc.mk (⟨#[110, 97, 116]⟩) (Tm.mk 1 0 0 ([])) 0), (Dc.mk (⟨#[122]⟩) v1 0), (Dc.mk (⟨#[115]⟩) v7 0), (Dc.mk (⟨#[100, 111, 117, 98, 108, 101]⟩) v13 0), (Dc.mk (⟨#[100, 122]⟩) v17 0)])))] rfl rfl ⟨a41, 5, rfl, rfl⟩
def W14_awake : Nat → Option (Bool)
  | 0 => none
  | n + 1 =>
    (W14_sample n ).bind (fun v1 =>
    (mode_Read n v1 (It.mk (⟨#[109, 111, 100, 101]⟩) ByteArray.empty (Rw.mk 0 ByteArray.empty ([])) ([(Pt.mk 1 ByteArray.empty (⟨#[100, 111, 117, 98, 108, 101]⟩) 0 (Rw.mk 0 ByteArray.empty ([])) ([])), (Pt.mk 2 (⟨#[43]⟩) (⟨#[88]⟩) 0 (Rw.mk 0 ByteArray.empty ([])) ([])), (Pt.mk 2 (⟨#[45]⟩) (⟨#[89]⟩) 0 (Rw.mk 0 ByteArray.empty ([])) ([]))]))).bind (fun v5 =>
    cond (((v5.2 != 0) || (v5.1.family != 3)) || (((List.map (D.int .i64) v5.1.signs).length : Int) != 2)) (
    some (false)) (
    (idx v5.1.signs 0).bind (fun v12 =>
    cond (v12 != 1) (
    some (false)) (
    (idx v5.1.signs 1).bind (fun v17 =>
    cond (v17 != 2) (
    some (false)) (
    (W14_sample n ).bind (fun v22 =>
    (mode_Check n v22 ([v5.1]) 4).bind (fun v26 =>
    cond (((((v26.2.2 != 0) || false) || false) || false) || false) (
    some (false)) (
    some (true)))))))))))
theorem W14_awake_spec (n : Nat)  (r : Bool) (hr : W14_awake n  = some r) : Pure Tryz.prog (.val (.fn (.func 12) [] [])) [] [] (fun r' out => r' = (.v (.bool r)) ∧ out = []) := by
  rcases n with _ | n
  · exact no_some hr
  rw [W14_awake.eq_2] at hr
  refine spec_of_body (N := 63) (m := 0) (dt := drawsOf [(2, .node [1, 2, 3] [(0, .node [] [(4, .node [5] [(6, .node [7, 8, 9] [(10, .node [] [(11, .leaf [12])])]), (10, .node [] [(6, .node [7, 8, 9] [(11, .leaf [12])])])]), (10, .node [] [(4, .node [5] [(6, .node [7, 8, 9] [(11, .leaf [12])])])])]), (4, .node [5] [(0, .node [] [(6, .node [7, 8, 9] [(10, .node [] [(11, .leaf [12])])]), (10, .node [] [(6, .node [7, 8, 9] [(11, .leaf [12])])])]), (10, .node [] [(0, .node [] [(6, .node [7, 8, 9] [(11, .leaf [12])])])])]), (10, .node [] [(0, .node [] [(4, .node [5] [(6, .node [7, 8, 9] [(11, .leaf [12])])])]), (4, .node [5] [(0, .node [] [(6, .node [7, 8, 9] [(11, .leaf [12])])])])])], [4, 6], [1]), (5, .node [1] [(0, .node [] [(2, .node [] [(3, .leaf [4, 5, 6, 7, 8, 9, 10])])]), (2, .node [] [(0, .node [] [(3, .leaf [4, 5, 6, 7, 8, 9, 10])])])], [2, 3], [])]) [] ttOK Tryz.func12 rfl Tryz.call12 Tryz.ntmps12 rfl rfl rfl mixed (by kernel_rfl) ?_
  obtain ⟨v1, h2, hr⟩ := bind_some hr
  obtain ⟨v5, h6, hr⟩ := bind_some hr
  refine ⟨?_, ?_⟩
  ·
    refine (W14_sample_spec n  _ h2).atR [] rfl rfl rfl ?_
    rintro _ _ ⟨a8, c8, rfl, rfl⟩
    refine ⟨fun _ _ h => h, ?_⟩
    refine ⟨?_, ?_⟩
    ·
      refine at_buildG (n := 3) ttOK 120 [.agg [.int .i64 1, .str ByteArray.empty, .str (⟨#[100, 111, 117, 98, 108, 101]⟩), .int .i64 0, .agg [.int .i64 0, .str ByteArray.empty, .sl 3 []], .sl 8 []], .agg [.int .i64 2, .str (⟨#[43]⟩), .str (⟨#[88]⟩), .int .i64 0, .agg [.int .i64 0, .str ByteArray.empty, .sl 3 []], .sl 8 []], .agg [.int .i64 2, .str (⟨#[45]⟩), .str (⟨#[89]⟩), .int .i64 0, .agg [.int .i64 0, .str ByteArray.empty, .sl 3 []], .sl 8 []]] (ds' := (Pt.encL ([(Pt.mk 1 ByteArray.empty (⟨#[100, 111, 117, 98, 108, 101]⟩) 0 (Rw.mk 0 ByteArray.empty ([])) ([])), (Pt.mk 2 (⟨#[43]⟩) (⟨#[88]⟩) 0 (Rw.mk 0 ByteArray.empty ([])) ([])), (Pt.mk 2 (⟨#[45]⟩) (⟨#[89]⟩) 0 (Rw.mk 0 ByteArray.empty ([])) ([]))]))) rfl (by kernel_rfl) ⟨⟨rfl, rfl, rfl, ⟨[(.v (.int .i64 1))], _, rfl, rfl, ⟨[(.v (.string ByteArray.empty))], _, rfl, rfl, ⟨[(.v (.string (⟨#[100, 111, 117, 98, 108, 101]⟩)))], _, rfl, rfl, ⟨[(.v (.int .i64 0))], _, rfl, rfl, ⟨[(.v (.int .i64 0)), (.v (.string ByteArray.empty)), (.v (.slice none 0 0))], _, rfl, ⟨[(.v (.int .i64 0))], _, rfl, rfl, ⟨[(.v (.string ByteArray.empty))], _, rfl, rfl, ⟨[(.v (.slice none 0 0))], _, rfl, (.inr ⟨rfl, rfl⟩), rfl⟩⟩⟩, ⟨[(.v (.slice none 0 0))], _, rfl, (.inr ⟨rfl, rfl⟩), rfl⟩⟩⟩⟩⟩⟩⟩, ⟨⟨rfl, rfl, rfl, ⟨[(.v (.int .i64 2))], _, rfl, rfl, ⟨[(.v (.string (⟨#[43]⟩)))], _, rfl, rfl, ⟨[(.v (.string (⟨#[88]⟩)))], _, rfl, rfl, ⟨[(.v (.int .i64 0))], _, rfl, rfl, ⟨[(.v (.int .i64 0)), (.v (.string ByteArray.empty)), (.v (.slice none 0 0))], _, rfl, ⟨[(.v (.int .i64 0))], _, rfl, rfl, ⟨[(.v (.string ByteArray.empty))], _, rfl, rfl, ⟨[(.v (.slice none 0 0))], _, rfl, (.inr ⟨rfl, rfl⟩), rfl⟩⟩⟩, ⟨[(.v (.slice none 0 0))], _, rfl, (.inr ⟨rfl, rfl⟩), rfl⟩⟩⟩⟩⟩⟩⟩, ⟨⟨rfl, rfl, rfl, ⟨[(.v (.int .i64 2))], _, rfl, rfl, ⟨[(.v (.string (⟨#[45]⟩)))], _, rfl, rfl, ⟨[(.v (.string (⟨#[89]⟩)))], _, rfl, rfl, ⟨[(.v (.int .i64 0))], _, rfl, rfl, ⟨[(.v (.int .i64 0)), (.v (.string ByteArray.empty)), (.v (.slice none 0 0))], _, rfl, ⟨[(.v (.int .i64 0))], _, rfl, rfl, ⟨[(.v (.string ByteArray.empty))], _, rfl, rfl, ⟨[(.v (.slice none 0 0))], _, rfl, (.inr ⟨rfl, rfl⟩), rfl⟩⟩⟩, ⟨[(.v (.slice none 0 0))], _, rfl, (.inr ⟨rfl, rfl⟩), rfl⟩⟩⟩⟩⟩⟩⟩, trivial⟩⟩⟩ rfl (by simp only [Pt.encL_eq, List.map_cons, List.map_nil, Pt.enc_eq] <;> rfl) (by decide) (by decide) ?_
      intro a9
      refine ⟨?_, ?_⟩
      ·
        refine Meets.nilRep 3 ?_
        refine (mode_Read_spec n v1 (It.mk (⟨#[109, 111, 100, 101]⟩) ByteArray.empty (Rw.mk 0 ByteArray.empty ([])) ([(Pt.mk 1 ByteArray.empty (⟨#[100, 111, 117, 98, 108, 101]⟩) 0 (Rw.mk 0 ByteArray.empty ([])) ([])), (Pt.mk 2 (⟨#[43]⟩) (⟨#[88]⟩) 0 (Rw.mk 0 ByteArray.empty ([])) ([])), (Pt.mk 2 (⟨#[45]⟩) (⟨#[89]⟩) 0 (Rw.mk 0 ByteArray.empty ([])) ([]))])) a8 c8 none 0 a9 3 _ h6).atR [1, 0, 2] rfl rfl rfl ?_
        rintro _ _ ⟨a10, c10, rfl, rfl⟩
        refine ⟨OwnKeptBut.append, ?_⟩
        refine ⟨fun _ _ h => h, ?_⟩
        refine AtGuard.mk (fun h11 => ?_) (fun h11 => ?_)
        · replace hr := cond_f h11 hr
          obtain ⟨v12, h13, hr⟩ := bind_some hr
          obtain ⟨h14, h15⟩ := idx_some h13
          refine at_index ttOK 3 rfl rfl rfl rfl h14 (map_get (D.int .i64) h15) ?_
          refine AtGuard.mk (fun h16 => ?_) (fun h16 => ?_)
          · replace hr := cond_f h16 hr
            obtain ⟨v17, h18, hr⟩ := bind_some hr
            obtain ⟨h19, h20⟩ := idx_some h18
            refine at_index ttOK 3 rfl rfl rfl rfl h19 (map_get (D.int .i64) h20) ?_
            refine AtIf.mk (fun h21 => ?_) (fun h21 => ?_)
            · replace hr := cond_t h21 hr
              replace hr := Option.some.inj hr
              subst hr
              exact AtRet.pureG [] [] rfl rfl ⟨rfl, rfl⟩
            · replace hr := cond_f h21 hr
              obtain ⟨v22, h23, hr⟩ := bind_some hr
              obtain ⟨v26, h27, hr⟩ := bind_some hr
              refine ⟨?_, ?_⟩
              ·
                refine (W14_sample_spec n  _ h23).atR [] rfl rfl rfl ?_
                rintro _ _ ⟨a28, c28, rfl, rfl⟩
                refine ⟨fun _ _ h => h, ?_⟩
                refine at_buildG (n := 1) ttOK 32 [.agg [.int .i64 v5.1.family, .sl 1 (List.map (D.int .i64) v5.1.signs)]] (ds' := (Md.encL ([v5.1]))) rfl (by kernel_rfl) ⟨⟨rfl, rfl, rfl, ⟨[(.v (.int .i64 v5.1.family))], _, rfl, rfl, ⟨[(.v (.slice a10 ((List.map (D.int .i64) v5.1.signs).length) c10))], _, rfl, (.inl ⟨_, rfl, nth_mem (j := 3) rfl⟩), rfl⟩⟩⟩, trivial⟩ rfl (by simp only [Md.encL_eq, List.map_cons, List.map_nil, Md.enc_eq] <;> rfl) (by decide) (by decide) ?_
                intro a29
                refine (mode_Check_spec n v22 ([v5.1]) 4 a28 c28 a29 1 _ h27).atR [4, 5] rfl rfl rfl ?_
                rintro _ _ ⟨rfl, rfl⟩
                refine AtIf.mk (fun h30 => ?_) (fun h30 => ?_)
                · replace hr := cond_t h30 hr
                  replace hr := Option.some.inj hr
                  subst hr
                  exact AtRet.pureG [] [] rfl rfl ⟨rfl, rfl⟩
                · replace hr := cond_f h30 hr
                  replace hr := Option.some.inj hr
                  subst hr
                  exact AtRet.pureG [] [] rfl rfl ⟨rfl, rfl⟩
              ·
                refine at_buildG (n := 1) ttOK 32 [.agg [.int .i64 v5.1.family, .sl 1 (List.map (D.int .i64) v5.1.signs)]] (ds' := (Md.encL ([v5.1]))) rfl (by kernel_rfl) ⟨⟨rfl, rfl, rfl, ⟨[(.v (.int .i64 v5.1.family))], _, rfl, rfl, ⟨[(.v (.slice a10 ((List.map (D.int .i64) v5.1.signs).length) c10))], _, rfl, (.inl ⟨_, rfl, nth_mem (j := 3) rfl⟩), rfl⟩⟩⟩, trivial⟩ rfl (by simp only [Md.encL_eq, List.map_cons, List.map_nil, Md.enc_eq] <;> rfl) (by decide) (by decide) ?_
                intro a31
                refine (W14_sample_spec n  _ h23).atR [] rfl rfl rfl ?_
                rintro _ _ ⟨a32, c32, rfl, rfl⟩
                refine ⟨fun _ _ h => h, ?_⟩
                refine (mode_Check_spec n v22 ([v5.1]) 4 a32 c32 a31 1 _ h27).atR [5, 4] rfl rfl rfl ?_
                rintro _ _ ⟨rfl, rfl⟩
                refine AtIf.mk (fun h30 => ?_) (fun h30 => ?_)
                · replace hr := cond_t h30 hr
                  replace hr := Option.some.inj hr
                  subst hr
                  exact AtRet.pureG [] [] rfl rfl ⟨rfl, rfl⟩
                · replace hr := cond_f h30 hr
                  replace hr := Option.some.inj hr
                  subst hr
                  exact AtRet.pureG [] [] rfl rfl ⟨rfl, rfl⟩
          · replace hr := cond_t h16 hr
            refine AtIf.mk (fun _ => ?_) (fun h => tf h)
            replace hr := Option.some.inj hr
            subst hr
            exact AtRet.pureG [] [] rfl rfl ⟨rfl, rfl⟩
        · replace hr := cond_t h11 hr
          refine AtGuard.mk (fun h => tf h) (fun _ => ?_)
          refine AtIf.mk (fun _ => ?_) (fun h => tf h)
          replace hr := Option.some.inj hr
          subst hr
          exact AtRet.pureG [] [] rfl rfl ⟨rfl, rfl⟩
      ·
        refine ⟨OwnKeptBut.append, ?_⟩
        refine Meets.nilRep 3 ?_
        refine (mode_Read_spec n v1 (It.mk (⟨#[109, 111, 100, 101]⟩) ByteArray.empty (Rw.mk 0 ByteArray.empty ([])) ([(Pt.mk 1 ByteArray.empty (⟨#[100, 111, 117, 98, 108, 101]⟩) 0 (Rw.mk 0 ByteArray.empty ([])) ([])), (Pt.mk 2 (⟨#[43]⟩) (⟨#[88]⟩) 0 (Rw.mk 0 ByteArray.empty ([])) ([])), (Pt.mk 2 (⟨#[45]⟩) (⟨#[89]⟩) 0 (Rw.mk 0 ByteArray.empty ([])) ([]))])) a8 c8 none 0 a9 3 _ h6).atR [1, 0, 2] rfl rfl rfl ?_
        rintro _ _ ⟨a33, c33, rfl, rfl⟩
        refine ⟨fun _ _ h => h, ?_⟩
        refine AtGuard.mk (fun h11 => ?_) (fun h11 => ?_)
        · replace hr := cond_f h11 hr
          obtain ⟨v12, h13, hr⟩ := bind_some hr
          obtain ⟨h14, h15⟩ := idx_some h13
          refine at_index ttOK 3 rfl rfl rfl rfl h14 (map_get (D.int .i64) h15) ?_
          refine AtGuard.mk (fun h16 => ?_) (fun h16 => ?_)
          · replace hr := cond_f h16 hr
            obtain ⟨v17, h18, hr⟩ := bind_some hr
            obtain ⟨h19, h20⟩ := idx_some h18
            refine at_index ttOK 3 rfl rfl rfl rfl h19 (map_get (D.int .i64) h20) ?_
            refine AtIf.mk (fun h21 => ?_) (fun h21 => ?_)
            · replace hr := cond_t h21 hr
              replace hr := Option.some.inj hr
              subst hr
              exact AtRet.pureG [] [] rfl rfl ⟨rfl, rfl⟩
            · replace hr := cond_f h21 hr
              obtain ⟨v22, h23, hr⟩ := bind_some hr
              obtain ⟨v26, h27, hr⟩ := bind_some hr
              refine ⟨?_, ?_⟩
              ·
                refine (W14_sample_spec n  _ h23).atR [] rfl rfl rfl ?_
                rintro _ _ ⟨a28, c28, rfl, rfl⟩
                refine ⟨fun _ _ h => h, ?_⟩
                refine at_buildG (n := 1) ttOK 32 [.agg [.int .i64 v5.1.family, .sl 1 (List.map (D.int .i64) v5.1.signs)]] (ds' := (Md.encL ([v5.1]))) rfl (by kernel_rfl) ⟨⟨rfl, rfl, rfl, ⟨[(.v (.int .i64 v5.1.family))], _, rfl, rfl, ⟨[(.v (.slice a33 ((List.map (D.int .i64) v5.1.signs).length) c33))], _, rfl, (.inl ⟨_, rfl, nth_mem (j := 3) rfl⟩), rfl⟩⟩⟩, trivial⟩ rfl (by simp only [Md.encL_eq, List.map_cons, List.map_nil, Md.enc_eq] <;> rfl) (by decide) (by decide) ?_
                intro a29
                refine (mode_Check_spec n v22 ([v5.1]) 4 a28 c28 a29 1 _ h27).atR [4, 5] rfl rfl rfl ?_
                rintro _ _ ⟨rfl, rfl⟩
                refine AtIf.mk (fun h30 => ?_) (fun h30 => ?_)
                · replace hr := cond_t h30 hr
                  replace hr := Option.some.inj hr
                  subst hr
                  exact AtRet.pureG [] [] rfl rfl ⟨rfl, rfl⟩
                · replace hr := cond_f h30 hr
                  replace hr := Option.some.inj hr
                  subst hr
                  exact AtRet.pureG [] [] rfl rfl ⟨rfl, rfl⟩
              ·
                refine at_buildG (n := 1) ttOK 32 [.agg [.int .i64 v5.1.family, .sl 1 (List.map (D.int .i64) v5.1.signs)]] (ds' := (Md.encL ([v5.1]))) rfl (by kernel_rfl) ⟨⟨rfl, rfl, rfl, ⟨[(.v (.int .i64 v5.1.family))], _, rfl, rfl, ⟨[(.v (.slice a33 ((List.map (D.int .i64) v5.1.signs).length) c33))], _, rfl, (.inl ⟨_, rfl, nth_mem (j := 3) rfl⟩), rfl⟩⟩⟩, trivial⟩ rfl (by simp only [Md.encL_eq, List.map_cons, List.map_nil, Md.enc_eq] <;> rfl) (by decide) (by decide) ?_
                intro a31
                refine (W14_sample_spec n  _ h23).atR [] rfl rfl rfl ?_
                rintro _ _ ⟨a32, c32, rfl, rfl⟩
                refine ⟨fun _ _ h => h, ?_⟩
                refine (mode_Check_spec n v22 ([v5.1]) 4 a32 c32 a31 1 _ h27).atR [5, 4] rfl rfl rfl ?_
                rintro _ _ ⟨rfl, rfl⟩
                refine AtIf.mk (fun h30 => ?_) (fun h30 => ?_)
                · replace hr := cond_t h30 hr
                  replace hr := Option.some.inj hr
                  subst hr
                  exact AtRet.pureG [] [] rfl rfl ⟨rfl, rfl⟩
                · replace hr := cond_f h30 hr
                  replace hr := Option.some.inj hr
                  subst hr
                  exact AtRet.pureG [] [] rfl rfl ⟨rfl, rfl⟩
          · replace hr := cond_t h16 hr
            refine AtIf.mk (fun _ => ?_) (fun h => tf h)
            replace hr := Option.some.inj hr
            subst hr
            exact AtRet.pureG [] [] rfl rfl ⟨rfl, rfl⟩
        · replace hr := cond_t h11 hr
          refine AtGuard.mk (fun h => tf h) (fun _ => ?_)
          refine AtIf.mk (fun _ => ?_) (fun h => tf h)
          replace hr := Option.some.inj hr
          subst hr
          exact AtRet.pureG [] [] rfl rfl ⟨rfl, rfl⟩
    ·
      refine ⟨OwnKeptBut.append, ?_⟩
      refine at_buildG (n := 3) ttOK 120 [.agg [.int .i64 1, .str ByteArray.empty, .str (⟨#[100, 111, 117, 98, 108, 101]⟩), .int .i64 0, .agg [.int .i64 0, .str ByteArray.empty, .sl 3 []], .sl 8 []], .agg [.int .i64 2, .str (⟨#[43]⟩), .str (⟨#[88]⟩), .int .i64 0, .agg [.int .i64 0, .str ByteArray.empty, .sl 3 []], .sl 8 []], .agg [.int .i64 2, .str (⟨#[45]⟩), .str (⟨#[89]⟩), .int .i64 0, .agg [.int .i64 0, .str ByteArray.empty, .sl 3 []], .sl 8 []]] (ds' := (Pt.encL ([(Pt.mk 1 ByteArray.empty (⟨#[100, 111, 117, 98, 108, 101]⟩) 0 (Rw.mk 0 ByteArray.empty ([])) ([])), (Pt.mk 2 (⟨#[43]⟩) (⟨#[88]⟩) 0 (Rw.mk 0 ByteArray.empty ([])) ([])), (Pt.mk 2 (⟨#[45]⟩) (⟨#[89]⟩) 0 (Rw.mk 0 ByteArray.empty ([])) ([]))]))) rfl (by kernel_rfl) ⟨⟨rfl, rfl, rfl, ⟨[(.v (.int .i64 1))], _, rfl, rfl, ⟨[(.v (.string ByteArray.empty))], _, rfl, rfl, ⟨[(.v (.string (⟨#[100, 111, 117, 98, 108, 101]⟩)))], _, rfl, rfl, ⟨[(.v (.int .i64 0))], _, rfl, rfl, ⟨[(.v (.int .i64 0)), (.v (.string ByteArray.empty)), (.v (.slice none 0 0))], _, rfl, ⟨[(.v (.int .i64 0))], _, rfl, rfl, ⟨[(.v (.string ByteArray.empty))], _, rfl, rfl, ⟨[(.v (.slice none 0 0))], _, rfl, (.inr ⟨rfl, rfl⟩), rfl⟩⟩⟩, ⟨[(.v (.slice none 0 0))], _, rfl, (.inr ⟨rfl, rfl⟩), rfl⟩⟩⟩⟩⟩⟩⟩, ⟨⟨rfl, rfl, rfl, ⟨[(.v (.int .i64 2))], _, rfl, rfl, ⟨[(.v (.string (⟨#[43]⟩)))], _, rfl, rfl, ⟨[(.v (.string (⟨#[88]⟩)))], _, rfl, rfl, ⟨[(.v (.int .i64 0))], _, rfl, rfl, ⟨[(.v (.int .i64 0)), (.v (.string ByteArray.empty)), (.v (.slice none 0 0))], _, rfl, ⟨[(.v (.int .i64 0))], _, rfl, rfl, ⟨[(.v (.string ByteArray.empty))], _, rfl, rfl, ⟨[(.v (.slice none 0 0))], _, rfl, (.inr ⟨rfl, rfl⟩), rfl⟩⟩⟩, ⟨[(.v (.slice none 0 0))], _, rfl, (.inr ⟨rfl, rfl⟩), rfl⟩⟩⟩⟩⟩⟩⟩, ⟨⟨rfl, rfl, rfl, ⟨[(.v (.int .i64 2))], _, rfl, rfl, ⟨[(.v (.string (⟨#[45]⟩)))], _, rfl, rfl, ⟨[(.v (.string (⟨#[89]⟩)))], _, rfl, rfl, ⟨[(.v (.int .i64 0))], _, rfl, rfl, ⟨[(.v (.int .i64 0)), (.v (.string ByteArray.empty)), (.v (.slice none 0 0))], _, rfl, ⟨[(.v (.int .i64 0))], _, rfl, rfl, ⟨[(.v (.string ByteArray.empty))], _, rfl, rfl, ⟨[(.v (.slice none 0 0))], _, rfl, (.inr ⟨rfl, rfl⟩), rfl⟩⟩⟩, ⟨[(.v (.slice none 0 0))], _, rfl, (.inr ⟨rfl, rfl⟩), rfl⟩⟩⟩⟩⟩⟩⟩, trivial⟩⟩⟩ rfl (by simp only [Pt.encL_eq, List.map_cons, List.map_nil, Pt.enc_eq] <;> rfl) (by decide) (by decide) ?_
      intro a34
      refine Meets.nilRep 3 ?_
      refine (mode_Read_spec n v1 (It.mk (⟨#[109, 111, 100, 101]⟩) ByteArray.empty (Rw.mk 0 ByteArray.empty ([])) ([(Pt.mk 1 ByteArray.empty (⟨#[100, 111, 117, 98, 108, 101]⟩) 0 (Rw.mk 0 ByteArray.empty ([])) ([])), (Pt.mk 2 (⟨#[43]⟩) (⟨#[88]⟩) 0 (Rw.mk 0 ByteArray.empty ([])) ([])), (Pt.mk 2 (⟨#[45]⟩) (⟨#[89]⟩) 0 (Rw.mk 0 ByteArray.empty ([])) ([]))])) a8 c8 none 0 a34 3 _ h6).atR [1, 0, 2] rfl rfl rfl ?_
      rintro _ _ ⟨a35, c35, rfl, rfl⟩
      refine ⟨fun _ _ h => h, ?_⟩
      refine AtGuard.mk (fun h11 => ?_) (fun h11 => ?_)
      · replace hr := cond_f h11 hr
        obtain ⟨v12, h13, hr⟩ := bind_some hr
        obtain ⟨h14, h15⟩ := idx_some h13
        refine at_index ttOK 3 rfl rfl rfl rfl h14 (map_get (D.int .i64) h15) ?_
        refine AtGuard.mk (fun h16 => ?_) (fun h16 => ?_)
        · replace hr := cond_f h16 hr
          obtain ⟨v17, h18, hr⟩ := bind_some hr
          obtain ⟨h19, h20⟩ := idx_some h18
          refine at_index ttOK 3 rfl rfl rfl rfl h19 (map_get (D.int .i64) h20) ?_
          refine AtIf.mk (fun h21 => ?_) (fun h21 => ?_)
          · replace hr := cond_t h21 hr
            replace hr := Option.some.inj hr
            subst hr
            exact AtRet.pureG [] [] rfl rfl ⟨rfl, rfl⟩
          · replace hr := cond_f h21 hr
            obtain ⟨v22, h23, hr⟩ := bind_some hr
            obtain ⟨v26, h27, hr⟩ := bind_some hr
            refine ⟨?_, ?_⟩
            ·
              refine (W14_sample_spec n  _ h23).atR [] rfl rfl rfl ?_
              rintro _ _ ⟨a28, c28, rfl, rfl⟩
              refine ⟨fun _ _ h => h, ?_⟩
              refine at_buildG (n := 1) ttOK 32 [.agg [.int .i64 v5.1.family, .sl 1 (List.map (D.int .i64) v5.1.signs)]] (ds' := (Md.encL ([v5.1]))) rfl (by kernel_rfl) ⟨⟨rfl, rfl, rfl, ⟨[(.v (.int .i64 v5.1.family))], _, rfl, rfl, ⟨[(.v (.slice a35 ((List.map (D.int .i64) v5.1.signs).length) c35))], _, rfl, (.inl ⟨_, rfl, nth_mem (j := 3) rfl⟩), rfl⟩⟩⟩, trivial⟩ rfl (by simp only [Md.encL_eq, List.map_cons, List.map_nil, Md.enc_eq] <;> rfl) (by decide) (by decide) ?_
              intro a29
              refine (mode_Check_spec n v22 ([v5.1]) 4 a28 c28 a29 1 _ h27).atR [4, 5] rfl rfl rfl ?_
              rintro _ _ ⟨rfl, rfl⟩
              refine AtIf.mk (fun h30 => ?_) (fun h30 => ?_)
              · replace hr := cond_t h30 hr
                replace hr := Option.some.inj hr
                subst hr
                exact AtRet.pureG [] [] rfl rfl ⟨rfl, rfl⟩
              · replace hr := cond_f h30 hr
                replace hr := Option.some.inj hr
                subst hr
                exact AtRet.pureG [] [] rfl rfl ⟨rfl, rfl⟩
            ·
              refine at_buildG (n := 1) ttOK 32 [.agg [.int .i64 v5.1.family, .sl 1 (List.map (D.int .i64) v5.1.signs)]] (ds' := (Md.encL ([v5.1]))) rfl (by kernel_rfl) ⟨⟨rfl, rfl, rfl, ⟨[(.v (.int .i64 v5.1.family))], _, rfl, rfl, ⟨[(.v (.slice a35 ((List.map (D.int .i64) v5.1.signs).length) c35))], _, rfl, (.inl ⟨_, rfl, nth_mem (j := 3) rfl⟩), rfl⟩⟩⟩, trivial⟩ rfl (by simp only [Md.encL_eq, List.map_cons, List.map_nil, Md.enc_eq] <;> rfl) (by decide) (by decide) ?_
              intro a31
              refine (W14_sample_spec n  _ h23).atR [] rfl rfl rfl ?_
              rintro _ _ ⟨a32, c32, rfl, rfl⟩
              refine ⟨fun _ _ h => h, ?_⟩
              refine (mode_Check_spec n v22 ([v5.1]) 4 a32 c32 a31 1 _ h27).atR [5, 4] rfl rfl rfl ?_
              rintro _ _ ⟨rfl, rfl⟩
              refine AtIf.mk (fun h30 => ?_) (fun h30 => ?_)
              · replace hr := cond_t h30 hr
                replace hr := Option.some.inj hr
                subst hr
                exact AtRet.pureG [] [] rfl rfl ⟨rfl, rfl⟩
              · replace hr := cond_f h30 hr
                replace hr := Option.some.inj hr
                subst hr
                exact AtRet.pureG [] [] rfl rfl ⟨rfl, rfl⟩
        · replace hr := cond_t h16 hr
          refine AtIf.mk (fun _ => ?_) (fun h => tf h)
          replace hr := Option.some.inj hr
          subst hr
          exact AtRet.pureG [] [] rfl rfl ⟨rfl, rfl⟩
      · replace hr := cond_t h11 hr
        refine AtGuard.mk (fun h => tf h) (fun _ => ?_)
        refine AtIf.mk (fun _ => ?_) (fun h => tf h)
        replace hr := Option.some.inj hr
        subst hr
        exact AtRet.pureG [] [] rfl rfl ⟨rfl, rfl⟩
  refine ⟨?_, ?_⟩
  ·
    refine at_buildG (n := 3) ttOK 120 [.agg [.int .i64 1, .str ByteArray.empty, .str (⟨#[100, 111, 117, 98, 108, 101]⟩), .int .i64 0, .agg [.int .i64 0, .str ByteArray.empty, .sl 3 []], .sl 8 []], .agg [.int .i64 2, .str (⟨#[43]⟩), .str (⟨#[88]⟩), .int .i64 0, .agg [.int .i64 0, .str ByteArray.empty, .sl 3 []], .sl 8 []], .agg [.int .i64 2, .str (⟨#[45]⟩), .str (⟨#[89]⟩), .int .i64 0, .agg [.int .i64 0, .str ByteArray.empty, .sl 3 []], .sl 8 []]] (ds' := (Pt.encL ([(Pt.mk 1 ByteArray.empty (⟨#[100, 111, 117, 98, 108, 101]⟩) 0 (Rw.mk 0 ByteArray.empty ([])) ([])), (Pt.mk 2 (⟨#[43]⟩) (⟨#[88]⟩) 0 (Rw.mk 0 ByteArray.empty ([])) ([])), (Pt.mk 2 (⟨#[45]⟩) (⟨#[89]⟩) 0 (Rw.mk 0 ByteArray.empty ([])) ([]))]))) rfl (by kernel_rfl) ⟨⟨rfl, rfl, rfl, ⟨[(.v (.int .i64 1))], _, rfl, rfl, ⟨[(.v (.string ByteArray.empty))], _, rfl, rfl, ⟨[(.v (.string (⟨#[100, 111, 117, 98, 108, 101]⟩)))], _, rfl, rfl, ⟨[(.v (.int .i64 0))], _, rfl, rfl, ⟨[(.v (.int .i64 0)), (.v (.string ByteArray.empty)), (.v (.slice none 0 0))], _, rfl, ⟨[(.v (.int .i64 0))], _, rfl, rfl, ⟨[(.v (.string ByteArray.empty))], _, rfl, rfl, ⟨[(.v (.slice none 0 0))], _, rfl, (.inr ⟨rfl, rfl⟩), rfl⟩⟩⟩, ⟨[(.v (.slice none 0 0))], _, rfl, (.inr ⟨rfl, rfl⟩), rfl⟩⟩⟩⟩⟩⟩⟩, ⟨⟨rfl, rfl, rfl, ⟨[(.v (.int .i64 2))], _, rfl, rfl, ⟨[(.v (.string (⟨#[43]⟩)))], _, rfl, rfl, ⟨[(.v (.string (⟨#[88]⟩)))], _, rfl, rfl, ⟨[(.v (.int .i64 0))], _, rfl, rfl, ⟨[(.v (.int .i64 0)), (.v (.string ByteArray.empty)), (.v (.slice none 0 0))], _, rfl, ⟨[(.v (.int .i64 0))], _, rfl, rfl, ⟨[(.v (.string ByteArray.empty))], _, rfl, rfl, ⟨[(.v (.slice none 0 0))], _, rfl, (.inr ⟨rfl, rfl⟩), rfl⟩⟩⟩, ⟨[(.v (.slice none 0 0))], _, rfl, (.inr ⟨rfl, rfl⟩), rfl⟩⟩⟩⟩⟩⟩⟩, ⟨⟨rfl, rfl, rfl, ⟨[(.v (.int .i64 2))], _, rfl, rfl, ⟨[(.v (.string (⟨#[45]⟩)))], _, rfl, rfl, ⟨[(.v (.string (⟨#[89]⟩)))], _, rfl, rfl, ⟨[(.v (.int .i64 0))], _, rfl, rfl, ⟨[(.v (.int .i64 0)), (.v (.string ByteArray.empty)), (.v (.slice none 0 0))], _, rfl, ⟨[(.v (.int .i64 0))], _, rfl, rfl, ⟨[(.v (.string ByteArray.empty))], _, rfl, rfl, ⟨[(.v (.slice none 0 0))], _, rfl, (.inr ⟨rfl, rfl⟩), rfl⟩⟩⟩, ⟨[(.v (.slice none 0 0))], _, rfl, (.inr ⟨rfl, rfl⟩), rfl⟩⟩⟩⟩⟩⟩⟩, trivial⟩⟩⟩ rfl (by simp only [Pt.encL_eq, List.map_cons, List.map_nil, Pt.enc_eq] <;> rfl) (by decide) (by decide) ?_
    intro a36
    refine ⟨?_, ?_⟩
    ·
      refine (W14_sample_spec n  _ h2).atR [] rfl rfl rfl ?_
      rintro _ _ ⟨a37, c37, rfl, rfl⟩
      refine ⟨fun _ _ h => h, ?_⟩
      refine ⟨?_, ?_⟩
      ·
        refine Meets.nilRep 3 ?_
        refine (mode_Read_spec n v1 (It.mk (⟨#[109, 111, 100, 101]⟩) ByteArray.empty (Rw.mk 0 ByteArray.empty ([])) ([(Pt.mk 1 ByteArray.empty (⟨#[100, 111, 117, 98, 108, 101]⟩) 0 (Rw.mk 0 ByteArray.empty ([])) ([])), (Pt.mk 2 (⟨#[43]⟩) (⟨#[88]⟩) 0 (Rw.mk 0 ByteArray.empty ([])) ([])), (Pt.mk 2 (⟨#[45]⟩) (⟨#[89]⟩) 0 (Rw.mk 0 ByteArray.empty ([])) ([]))])) a37 c37 none 0 a36 3 _ h6).atR [2, 0, 1] rfl rfl rfl ?_
        rintro _ _ ⟨a38, c38, rfl, rfl⟩
        refine ⟨OwnKeptBut.append, ?_⟩
        refine ⟨fun _ _ h => h, ?_⟩
        refine AtGuard.mk (fun h11 => ?_) (fun h11 => ?_)
        · replace hr := cond_f h11 hr
          obtain ⟨v12, h13, hr⟩ := bind_some hr
          obtain ⟨h14, h15⟩ := idx_some h13
          refine at_index ttOK 3 rfl rfl rfl rfl h14 (map_get (D.int .i64) h15) ?_
          refine AtGuard.mk (fun h16 => ?_) (fun h16 => ?_)
          · replace hr := cond_f h16 hr
            obtain ⟨v17, h18, hr⟩ := bind_some hr
            obtain ⟨h19, h20⟩ := idx_some h18
            refine at_index ttOK 3 rfl rfl rfl rfl h19 (map_get (D.int .i64) h20) ?_
            refine AtIf.mk (fun h21 => ?_) (fun h21 => ?_)
            · replace hr := cond_t h21 hr
              replace hr := Option.some.inj hr
              subst hr
              exact AtRet.pureG [] [] rfl rfl ⟨rfl, rfl⟩
            · replace hr := cond_f h21 hr
              obtain ⟨v22, h23, hr⟩ := bind_some hr
              obtain ⟨v26, h27, hr⟩ := bind_some hr
              refine ⟨?_, ?_⟩
              ·
                refine (W14_sample_spec n  _ h23).atR [] rfl rfl rfl ?_
                rintro _ _ ⟨a28, c28, rfl, rfl⟩
                refine ⟨fun _ _ h => h, ?_⟩
                refine at_buildG (n := 1) ttOK 32 [.agg [.int .i64 v5.1.family, .sl 1 (List.map (D.int .i64) v5.1.signs)]] (ds' := (Md.encL ([v5.1]))) rfl (by kernel_rfl) ⟨⟨rfl, rfl, rfl, ⟨[(.v (.int .i64 v5.1.family))], _, rfl, rfl, ⟨[(.v (.slice a38 ((List.map (D.int .i64) v5.1.signs).length) c38))], _, rfl, (.inl ⟨_, rfl, nth_mem (j := 3) rfl⟩), rfl⟩⟩⟩, trivial⟩ rfl (by simp only [Md.encL_eq, List.map_cons, List.map_nil, Md.enc_eq] <;> rfl) (by decide) (by decide) ?_
                intro a29
                refine (mode_Check_spec n v22 ([v5.1]) 4 a28 c28 a29 1 _ h27).atR [4, 5] rfl rfl rfl ?_
                rintro _ _ ⟨rfl, rfl⟩
                refine AtIf.mk (fun h30 => ?_) (fun h30 => ?_)
                · replace hr := cond_t h30 hr
                  replace hr := Option.some.inj hr
                  subst hr
                  exact AtRet.pureG [] [] rfl rfl ⟨rfl, rfl⟩
                · replace hr := cond_f h30 hr
                  replace hr := Option.some.inj hr
                  subst hr
                  exact AtRet.pureG [] [] rfl rfl ⟨rfl, rfl⟩
              ·
                refine at_buildG (n := 1) ttOK 32 [.agg [.int .i64 v5.1.family, .sl 1 (List.map (D.int .i64) v5.1.signs)]] (ds' := (Md.encL ([v5.1]))) rfl (by kernel_rfl) ⟨⟨rfl, rfl, rfl, ⟨[(.v (.int .i64 v5.1.family))], _, rfl, rfl, ⟨[(.v (.slice a38 ((List.map (D.int .i64) v5.1.signs).length) c38))], _, rfl, (.inl ⟨_, rfl, nth_mem (j := 3) rfl⟩), rfl⟩⟩⟩, trivial⟩ rfl (by simp only [Md.encL_eq, List.map_cons, List.map_nil, Md.enc_eq] <;> rfl) (by decide) (by decide) ?_
                intro a31
                refine (W14_sample_spec n  _ h23).atR [] rfl rfl rfl ?_
                rintro _ _ ⟨a32, c32, rfl, rfl⟩
                refine ⟨fun _ _ h => h, ?_⟩
                refine (mode_Check_spec n v22 ([v5.1]) 4 a32 c32 a31 1 _ h27).atR [5, 4] rfl rfl rfl ?_
                rintro _ _ ⟨rfl, rfl⟩
                refine AtIf.mk (fun h30 => ?_) (fun h30 => ?_)
                · replace hr := cond_t h30 hr
                  replace hr := Option.some.inj hr
                  subst hr
                  exact AtRet.pureG [] [] rfl rfl ⟨rfl, rfl⟩
                · replace hr := cond_f h30 hr
                  replace hr := Option.some.inj hr
                  subst hr
                  exact AtRet.pureG [] [] rfl rfl ⟨rfl, rfl⟩
          · replace hr := cond_t h16 hr
            refine AtIf.mk (fun _ => ?_) (fun h => tf h)
            replace hr := Option.some.inj hr
            subst hr
            exact AtRet.pureG [] [] rfl rfl ⟨rfl, rfl⟩
        · replace hr := cond_t h11 hr
          refine AtGuard.mk (fun h => tf h) (fun _ => ?_)
          refine AtIf.mk (fun _ => ?_) (fun h => tf h)
          replace hr := Option.some.inj hr
          subst hr
          exact AtRet.pureG [] [] rfl rfl ⟨rfl, rfl⟩
      ·
        refine ⟨OwnKeptBut.append, ?_⟩
        refine Meets.nilRep 3 ?_
        refine (mode_Read_spec n v1 (It.mk (⟨#[109, 111, 100, 101]⟩) ByteArray.empty (Rw.mk 0 ByteArray.empty ([])) ([(Pt.mk 1 ByteArray.empty (⟨#[100, 111, 117, 98, 108, 101]⟩) 0 (Rw.mk 0 ByteArray.empty ([])) ([])), (Pt.mk 2 (⟨#[43]⟩) (⟨#[88]⟩) 0 (Rw.mk 0 ByteArray.empty ([])) ([])), (Pt.mk 2 (⟨#[45]⟩) (⟨#[89]⟩) 0 (Rw.mk 0 ByteArray.empty ([])) ([]))])) a37 c37 none 0 a36 3 _ h6).atR [2, 0, 1] rfl rfl rfl ?_
        rintro _ _ ⟨a39, c39, rfl, rfl⟩
        refine ⟨fun _ _ h => h, ?_⟩
        refine AtGuard.mk (fun h11 => ?_) (fun h11 => ?_)
        · replace hr := cond_f h11 hr
          obtain ⟨v12, h13, hr⟩ := bind_some hr
          obtain ⟨h14, h15⟩ := idx_some h13
          refine at_index ttOK 3 rfl rfl rfl rfl h14 (map_get (D.int .i64) h15) ?_
          refine AtGuard.mk (fun h16 => ?_) (fun h16 => ?_)
          · replace hr := cond_f h16 hr
            obtain ⟨v17, h18, hr⟩ := bind_some hr
            obtain ⟨h19, h20⟩ := idx_some h18
            refine at_index ttOK 3 rfl rfl rfl rfl h19 (map_get (D.int .i64) h20) ?_
            refine AtIf.mk (fun h21 => ?_) (fun h21 => ?_)
            · replace hr := cond_t h21 hr
              replace hr := Option.some.inj hr
              subst hr
              exact AtRet.pureG [] [] rfl rfl ⟨rfl, rfl⟩
            · replace hr := cond_f h21 hr
              obtain ⟨v22, h23, hr⟩ := bind_some hr
              obtain ⟨v26, h27, hr⟩ := bind_some hr
              refine ⟨?_, ?_⟩
              ·
                refine (W14_sample_spec n  _ h23).atR [] rfl rfl rfl ?_
                rintro _ _ ⟨a28, c28, rfl, rfl⟩
                refine ⟨fun _ _ h => h, ?_⟩
                refine at_buildG (n := 1) ttOK 32 [.agg [.int .i64 v5.1.family, .sl 1 (List.map (D.int .i64) v5.1.signs)]] (ds' := (Md.encL ([v5.1]))) rfl (by kernel_rfl) ⟨⟨rfl, rfl, rfl, ⟨[(.v (.int .i64 v5.1.family))], _, rfl, rfl, ⟨[(.v (.slice a39 ((List.map (D.int .i64) v5.1.signs).length) c39))], _, rfl, (.inl ⟨_, rfl, nth_mem (j := 3) rfl⟩), rfl⟩⟩⟩, trivial⟩ rfl (by simp only [Md.encL_eq, List.map_cons, List.map_nil, Md.enc_eq] <;> rfl) (by decide) (by decide) ?_
                intro a29
                refine (mode_Check_spec n v22 ([v5.1]) 4 a28 c28 a29 1 _ h27).atR [4, 5] rfl rfl rfl ?_
                rintro _ _ ⟨rfl, rfl⟩
                refine AtIf.mk (fun h30 => ?_) (fun h30 => ?_)
                · replace hr := cond_t h30 hr
                  replace hr := Option.some.inj hr
                  subst hr
                  exact AtRet.pureG [] [] rfl rfl ⟨rfl, rfl⟩
                · replace hr := cond_f h30 hr
                  replace hr := Option.some.inj hr
                  subst hr
                  exact AtRet.pureG [] [] rfl rfl ⟨rfl, rfl⟩
              ·
                refine at_buildG (n := 1) ttOK 32 [.agg [.int .i64 v5.1.family, .sl 1 (List.map (D.int .i64) v5.1.signs)]] (ds' := (Md.encL ([v5.1]))) rfl (by kernel_rfl) ⟨⟨rfl, rfl, rfl, ⟨[(.v (.int .i64 v5.1.family))], _, rfl, rfl, ⟨[(.v (.slice a39 ((List.map (D.int .i64) v5.1.signs).length) c39))], _, rfl, (.inl ⟨_, rfl, nth_mem (j := 3) rfl⟩), rfl⟩⟩⟩, trivial⟩ rfl (by simp only [Md.encL_eq, List.map_cons, List.map_nil, Md.enc_eq] <;> rfl) (by decide) (by decide) ?_
                intro a31
                refine (W14_sample_spec n  _ h23).atR [] rfl rfl rfl ?_
                rintro _ _ ⟨a32, c32, rfl, rfl⟩
                refine ⟨fun _ _ h => h, ?_⟩
                refine (mode_Check_spec n v22 ([v5.1]) 4 a32 c32 a31 1 _ h27).atR [5, 4] rfl rfl rfl ?_
                rintro _ _ ⟨rfl, rfl⟩
                refine AtIf.mk (fun h30 => ?_) (fun h30 => ?_)
                · replace hr := cond_t h30 hr
                  replace hr := Option.some.inj hr
                  subst hr
                  exact AtRet.pureG [] [] rfl rfl ⟨rfl, rfl⟩
                · replace hr := cond_f h30 hr
                  replace hr := Option.some.inj hr
                  subst hr
                  exact AtRet.pureG [] [] rfl rfl ⟨rfl, rfl⟩
          · replace hr := cond_t h16 hr
            refine AtIf.mk (fun _ => ?_) (fun h => tf h)
            replace hr := Option.some.inj hr
            subst hr
            exact AtRet.pureG [] [] rfl rfl ⟨rfl, rfl⟩
        · replace hr := cond_t h11 hr
          refine AtGuard.mk (fun h => tf h) (fun _ => ?_)
          refine AtIf.mk (fun _ => ?_) (fun h => tf h)
          replace hr := Option.some.inj hr
          subst hr
          exact AtRet.pureG [] [] rfl rfl ⟨rfl, rfl⟩
    ·
      refine ⟨OwnKeptBut.append, ?_⟩
      refine (W14_sample_spec n  _ h2).atR [] rfl rfl rfl ?_
      rintro _ _ ⟨a40, c40, rfl, rfl⟩
      refine ⟨fun _ _ h => h, ?_⟩
      refine Meets.nilRep 3 ?_
      refine (mode_Read_spec n v1 (It.mk (⟨#[109, 111, 100, 101]⟩) ByteArray.empty (Rw.mk 0 ByteArray.empty ([])) ([(Pt.mk 1 ByteArray.empty (⟨#[100, 111, 117, 98, 108, 101]⟩) 0 (Rw.mk 0 ByteArray.empty ([])) ([])), (Pt.mk 2 (⟨#[43]⟩) (⟨#[88]⟩) 0 (Rw.mk 0 ByteArray.empty ([])) ([])), (Pt.mk 2 (⟨#[45]⟩) (⟨#[89]⟩) 0 (Rw.mk 0 ByteArray.empty ([])) ([]))])) a40 c40 none 0 a36 3 _ h6).atR [2, 0, 1] rfl rfl rfl ?_
      rintro _ _ ⟨a41, c41, rfl, rfl⟩
      refine ⟨fun _ _ h => h, ?_⟩
      refine AtGuard.mk (fun h11 => ?_) (fun h11 => ?_)
      · replace hr := cond_f h11 hr
        obtain ⟨v12, h13, hr⟩ := bind_some hr
        obtain ⟨h14, h15⟩ := idx_some h13
        refine at_index ttOK 3 rfl rfl rfl rfl h14 (map_get (D.int .i64) h15) ?_
        refine AtGuard.mk (fun h16 => ?_) (fun h16 => ?_)
        · replace hr := cond_f h16 hr
          obtain ⟨v17, h18, hr⟩ := bind_some hr
          obtain ⟨h19, h20⟩ := idx_some h18
          refine at_index ttOK 3 rfl rfl rfl rfl h19 (map_get (D.int .i64) h20) ?_
          refine AtIf.mk (fun h21 => ?_) (fun h21 => ?_)
          · replace hr := cond_t h21 hr
            replace hr := Option.some.inj hr
            subst hr
            exact AtRet.pureG [] [] rfl rfl ⟨rfl, rfl⟩
          · replace hr := cond_f h21 hr
            obtain ⟨v22, h23, hr⟩ := bind_some hr
            obtain ⟨v26, h27, hr⟩ := bind_some hr
            refine ⟨?_, ?_⟩
            ·
              refine (W14_sample_spec n  _ h23).atR [] rfl rfl rfl ?_
              rintro _ _ ⟨a28, c28, rfl, rfl⟩
              refine ⟨fun _ _ h => h, ?_⟩
              refine at_buildG (n := 1) ttOK 32 [.agg [.int .i64 v5.1.family, .sl 1 (List.map (D.int .i64) v5.1.signs)]] (ds' := (Md.encL ([v5.1]))) rfl (by kernel_rfl) ⟨⟨rfl, rfl, rfl, ⟨[(.v (.int .i64 v5.1.family))], _, rfl, rfl, ⟨[(.v (.slice a41 ((List.map (D.int .i64) v5.1.signs).length) c41))], _, rfl, (.inl ⟨_, rfl, nth_mem (j := 3) rfl⟩), rfl⟩⟩⟩, trivial⟩ rfl (by simp only [Md.encL_eq, List.map_cons, List.map_nil, Md.enc_eq] <;> rfl) (by decide) (by decide) ?_
              intro a29
              refine (mode_Check_spec n v22 ([v5.1]) 4 a28 c28 a29 1 _ h27).atR [4, 5] rfl rfl rfl ?_
              rintro _ _ ⟨rfl, rfl⟩
              refine AtIf.mk (fun h30 => ?_) (fun h30 => ?_)
              · replace hr := cond_t h30 hr
                replace hr := Option.some.inj hr
                subst hr
                exact AtRet.pureG [] [] rfl rfl ⟨rfl, rfl⟩
              · replace hr := cond_f h30 hr
                replace hr := Option.some.inj hr
                subst hr
                exact AtRet.pureG [] [] rfl rfl ⟨rfl, rfl⟩
            ·
              refine at_buildG (n := 1) ttOK 32 [.agg [.int .i64 v5.1.family, .sl 1 (List.map (D.int .i64) v5.1.signs)]] (ds' := (Md.encL ([v5.1]))) rfl (by kernel_rfl) ⟨⟨rfl, rfl, rfl, ⟨[(.v (.int .i64 v5.1.family))], _, rfl, rfl, ⟨[(.v (.slice a41 ((List.map (D.int .i64) v5.1.signs).length) c41))], _, rfl, (.inl ⟨_, rfl, nth_mem (j := 3) rfl⟩), rfl⟩⟩⟩, trivial⟩ rfl (by simp only [Md.encL_eq, List.map_cons, List.map_nil, Md.enc_eq] <;> rfl) (by decide) (by decide) ?_
              intro a31
              refine (W14_sample_spec n  _ h23).atR [] rfl rfl rfl ?_
              rintro _ _ ⟨a32, c32, rfl, rfl⟩
              refine ⟨fun _ _ h => h, ?_⟩
              refine (mode_Check_spec n v22 ([v5.1]) 4 a32 c32 a31 1 _ h27).atR [5, 4] rfl rfl rfl ?_
              rintro _ _ ⟨rfl, rfl⟩
              refine AtIf.mk (fun h30 => ?_) (fun h30 => ?_)
              · replace hr := cond_t h30 hr
                replace hr := Option.some.inj hr
                subst hr
                exact AtRet.pureG [] [] rfl rfl ⟨rfl, rfl⟩
              · replace hr := cond_f h30 hr
                replace hr := Option.some.inj hr
                subst hr
                exact AtRet.pureG [] [] rfl rfl ⟨rfl, rfl⟩
        · replace hr := cond_t h16 hr
          refine AtIf.mk (fun _ => ?_) (fun h => tf h)
          replace hr := Option.some.inj hr
          subst hr
          exact AtRet.pureG [] [] rfl rfl ⟨rfl, rfl⟩
      · replace hr := cond_t h11 hr
        refine AtGuard.mk (fun h => tf h) (fun _ => ?_)
        refine AtIf.mk (fun _ => ?_) (fun h => tf h)
        replace hr := Option.some.inj hr
        subst hr
        exact AtRet.pureG [] [] rfl rfl ⟨rfl, rfl⟩
  ·
    refine ⟨OwnKeptBut.append, ?_⟩
    refine ⟨?_, ?_⟩
    ·
      refine (W14_sample_spec n  _ h2).atR [] rfl rfl rfl ?_
      rintro _ _ ⟨a42, c42, rfl, rfl⟩
      refine ⟨fun _ _ h => h, ?_⟩
      refine at_buildG (n := 3) ttOK 120 [.agg [.int .i64 1, .str ByteArray.empty, .str (⟨#[100, 111, 117, 98, 108, 101]⟩), .int .i64 0, .agg [.int .i64 0, .str ByteArray.empty, .sl 3 []], .sl 8 []], .agg [.int .i64 2, .str (⟨#[43]⟩), .str (⟨#[88]⟩), .int .i64 0, .agg [.int .i64 0, .str ByteArray.empty, .sl 3 []], .sl 8 []], .agg [.int .i64 2, .str (⟨#[45]⟩), .str (⟨#[89]⟩), .int .i64 0, .agg [.int .i64 0, .str ByteArray.empty, .sl 3 []], .sl 8 []]] (ds' := (Pt.encL ([(Pt.mk 1 ByteArray.empty (⟨#[100, 111, 117, 98, 108, 101]⟩) 0 (Rw.mk 0 ByteArray.empty ([])) ([])), (Pt.mk 2 (⟨#[43]⟩) (⟨#[88]⟩) 0 (Rw.mk 0 ByteArray.empty ([])) ([])), (Pt.mk 2 (⟨#[45]⟩) (⟨#[89]⟩) 0 (Rw.mk 0 ByteArray.empty ([])) ([]))]))) rfl (by kernel_rfl) ⟨⟨rfl, rfl, rfl, ⟨[(.v (.int .i64 1))], _, rfl, rfl, ⟨[(.v (.string ByteArray.empty))], _, rfl, rfl, ⟨[(.v (.string (⟨#[100, 111, 117, 98, 108, 101]⟩)))], _, rfl, rfl, ⟨[(.v (.int .i64 0))], _, rfl, rfl, ⟨[(.v (.int .i64 0)), (.v (.string ByteArray.empty)), (.v (.slice none 0 0))], _, rfl, ⟨[(.v (.int .i64 0))], _, rfl, rfl, ⟨[(.v (.string ByteArray.empty))], _, rfl, rfl, ⟨[(.v (.slice none 0 0))], _, rfl, (.inr ⟨rfl, rfl⟩), rfl⟩⟩⟩, ⟨[(.v (.slice none 0 0))], _, rfl, (.inr ⟨rfl, rfl⟩), rfl⟩⟩⟩⟩⟩⟩⟩, ⟨⟨rfl, rfl, rfl, ⟨[(.v (.int .i64 2))], _, rfl, rfl, ⟨[(.v (.string (⟨#[43]⟩)))], _, rfl, rfl, ⟨[(.v (.string (⟨#[88]⟩)))], _, rfl, rfl, ⟨[(.v (.int .i64 0))], _, rfl, rfl, ⟨[(.v (.int .i64 0)), (.v (.string ByteArray.empty)), (.v (.slice none 0 0))], _, rfl, ⟨[(.v (.int .i64 0))], _, rfl, rfl, ⟨[(.v (.string ByteArray.empty))], _, rfl, rfl, ⟨[(.v (.slice none 0 0))], _, rfl, (.inr ⟨rfl, rfl⟩), rfl⟩⟩⟩, ⟨[(.v (.slice none 0 0))], _, rfl, (.inr ⟨rfl, rfl⟩), rfl⟩⟩⟩⟩⟩⟩⟩, ⟨⟨rfl, rfl, rfl, ⟨[(.v (.int .i64 2))], _, rfl, rfl, ⟨[(.v (.string (⟨#[45]⟩)))], _, rfl, rfl, ⟨[(.v (.string (⟨#[89]⟩)))], _, rfl, rfl, ⟨[(.v (.int .i64 0))], _, rfl, rfl, ⟨[(.v (.int .i64 0)), (.v (.string ByteArray.empty)), (.v (.slice none 0 0))], _, rfl, ⟨[(.v (.int .i64 0))], _, rfl, rfl, ⟨[(.v (.string ByteArray.empty))], _, rfl, rfl, ⟨[(.v (.slice none 0 0))], _, rfl, (.inr ⟨rfl, rfl⟩), rfl⟩⟩⟩, ⟨[(.v (.slice none 0 0))], _, rfl, (.inr ⟨rfl, rfl⟩), rfl⟩⟩⟩⟩⟩⟩⟩, trivial⟩⟩⟩ rfl (by simp only [Pt.encL_eq, List.map_cons, List.map_nil, Pt.enc_eq] <;> rfl) (by decide) (by decide) ?_
      intro a43
      refine Meets.nilRep 3 ?_
      refine (mode_Read_spec n v1 (It.mk (⟨#[109, 111, 100, 101]⟩) ByteArray.empty (Rw.mk 0 ByteArray.empty ([])) ([(Pt.mk 1 ByteArray.empty (⟨#[100, 111, 117, 98, 108, 101]⟩) 0 (Rw.mk 0 ByteArray.empty ([])) ([])), (Pt.mk 2 (⟨#[43]⟩) (⟨#[88]⟩) 0 (Rw.mk 0 ByteArray.empty ([])) ([])), (Pt.mk 2 (⟨#[45]⟩) (⟨#[89]⟩) 0 (Rw.mk 0 ByteArray.empty ([])) ([]))])) a42 c42 none 0 a43 3 _ h6).atR [1, 0, 2] rfl rfl rfl ?_
      rintro _ _ ⟨a44, c44, rfl, rfl⟩
      refine ⟨fun _ _ h => h, ?_⟩
      refine AtGuard.mk (fun h11 => ?_) (fun h11 => ?_)
      · replace hr := cond_f h11 hr
        obtain ⟨v12, h13, hr⟩ := bind_some hr
        obtain ⟨h14, h15⟩ := idx_some h13
        refine at_index ttOK 3 rfl rfl rfl rfl h14 (map_get (D.int .i64) h15) ?_
        refine AtGuard.mk (fun h16 => ?_) (fun h16 => ?_)
        · replace hr := cond_f h16 hr
          obtain ⟨v17, h18, hr⟩ := bind_some hr
          obtain ⟨h19, h20⟩ := idx_some h18
          refine at_index ttOK 3 rfl rfl rfl rfl h19 (map_get (D.int .i64) h20) ?_
          refine AtIf.mk (fun h21 => ?_) (fun h21 => ?_)
          · replace hr := cond_t h21 hr
            replace hr := Option.some.inj hr
            subst hr
            exact AtRet.pureG [] [] rfl rfl ⟨rfl, rfl⟩
          · replace hr := cond_f h21 hr
            obtain ⟨v22, h23, hr⟩ := bind_some hr
            obtain ⟨v26, h27, hr⟩ := bind_some hr
            refine ⟨?_, ?_⟩
            ·
              refine (W14_sample_spec n  _ h23).atR [] rfl rfl rfl ?_
              rintro _ _ ⟨a28, c28, rfl, rfl⟩
              refine ⟨fun _ _ h => h, ?_⟩
              refine at_buildG (n := 1) ttOK 32 [.agg [.int .i64 v5.1.family, .sl 1 (List.map (D.int .i64) v5.1.signs)]] (ds' := (Md.encL ([v5.1]))) rfl (by kernel_rfl) ⟨⟨rfl, rfl, rfl, ⟨[(.v (.int .i64 v5.1.family))], _, rfl, rfl, ⟨[(.v (.slice a44 ((List.map (D.int .i64) v5.1.signs).length) c44))], _, rfl, (.inl ⟨_, rfl, nth_mem (j := 3) rfl⟩), rfl⟩⟩⟩, trivial⟩ rfl (by simp only [Md.encL_eq, List.map_cons, List.map_nil, Md.enc_eq] <;> rfl) (by decide) (by decide) ?_
              intro a29
              refine (mode_Check_spec n v22 ([v5.1]) 4 a28 c28 a29 1 _ h27).atR [4, 5] rfl rfl rfl ?_
              rintro _ _ ⟨rfl, rfl⟩
              refine AtIf.mk (fun h30 => ?_) (fun h30 => ?_)
              · replace hr := cond_t h30 hr
                replace hr := Option.some.inj hr
                subst hr
                exact AtRet.pureG [] [] rfl rfl ⟨rfl, rfl⟩
              · replace hr := cond_f h30 hr
                replace hr := Option.some.inj hr
                subst hr
                exact AtRet.pureG [] [] rfl rfl ⟨rfl, rfl⟩
            ·
              refine at_buildG (n := 1) ttOK 32 [.agg [.int .i64 v5.1.family, .sl 1 (List.map (D.int .i64) v5.1.signs)]] (ds' := (Md.encL ([v5.1]))) rfl (by kernel_rfl) ⟨⟨rfl, rfl, rfl, ⟨[(.v (.int .i64 v5.1.family))], _, rfl, rfl, ⟨[(.v (.slice a44 ((List.map (D.int .i64) v5.1.signs).length) c44))], _, rfl, (.inl ⟨_, rfl, nth_mem (j := 3) rfl⟩), rfl⟩⟩⟩, trivial⟩ rfl (by simp only [Md.encL_eq, List.map_cons, List.map_nil, Md.enc_eq] <;> rfl) (by decide) (by decide) ?_
              intro a31
              refine (W14_sample_spec n  _ h23).atR [] rfl rfl rfl ?_
              rintro _ _ ⟨a32, c32, rfl, rfl⟩
              refine ⟨fun _ _ h => h, ?_⟩
              refine (mode_Check_spec n v22 ([v5.1]) 4 a32 c32 a31 1 _ h27).atR [5, 4] rfl rfl rfl ?_
              rintro _ _ ⟨rfl, rfl⟩
              refine AtIf.mk (fun h30 => ?_) (fun h30 => ?_)
              · replace hr := cond_t h30 hr
                replace hr := Option.some.inj hr
                subst hr
                exact AtRet.pureG [] [] rfl rfl ⟨rfl, rfl⟩
              · replace hr := cond_f h30 hr
                replace hr := Option.some.inj hr
                subst hr
                exact AtRet.pureG [] [] rfl rfl ⟨rfl, rfl⟩
        · replace hr := cond_t h16 hr
          refine AtIf.mk (fun _ => ?_) (fun h => tf h)
          replace hr := Option.some.inj hr
          subst hr
          exact AtRet.pureG [] [] rfl rfl ⟨rfl, rfl⟩
      · replace hr := cond_t h11 hr
        refine AtGuard.mk (fun h => tf h) (fun _ => ?_)
        refine AtIf.mk (fun _ => ?_) (fun h => tf h)
        replace hr := Option.some.inj hr
        subst hr
        exact AtRet.pureG [] [] rfl rfl ⟨rfl, rfl⟩
    ·
      refine at_buildG (n := 3) ttOK 120 [.agg [.int .i64 1, .str ByteArray.empty, .str (⟨#[100, 111, 117, 98, 108, 101]⟩), .int .i64 0, .agg [.int .i64 0, .str ByteArray.empty, .sl 3 []], .sl 8 []], .agg [.int .i64 2, .str (⟨#[43]⟩), .str (⟨#[88]⟩), .int .i64 0, .agg [.int .i64 0, .str ByteArray.empty, .sl 3 []], .sl 8 []], .agg [.int .i64 2, .str (⟨#[45]⟩), .str (⟨#[89]⟩), .int .i64 0, .agg [.int .i64 0, .str ByteArray.empty, .sl 3 []], .sl 8 []]] (ds' := (Pt.encL ([(Pt.mk 1 ByteArray.empty (⟨#[100, 111, 117, 98, 108, 101]⟩) 0 (Rw.mk 0 ByteArray.empty ([])) ([])), (Pt.mk 2 (⟨#[43]⟩) (⟨#[88]⟩) 0 (Rw.mk 0 ByteArray.empty ([])) ([])), (Pt.mk 2 (⟨#[45]⟩) (⟨#[89]⟩) 0 (Rw.mk 0 ByteArray.empty ([])) ([]))]))) rfl (by kernel_rfl) ⟨⟨rfl, rfl, rfl, ⟨[(.v (.int .i64 1))], _, rfl, rfl, ⟨[(.v (.string ByteArray.empty))], _, rfl, rfl, ⟨[(.v (.string (⟨#[100, 111, 117, 98, 108, 101]⟩)))], _, rfl, rfl, ⟨[(.v (.int .i64 0))], _, rfl, rfl, ⟨[(.v (.int .i64 0)), (.v (.string ByteArray.empty)), (.v (.slice none 0 0))], _, rfl, ⟨[(.v (.int .i64 0))], _, rfl, rfl, ⟨[(.v (.string ByteArray.empty))], _, rfl, rfl, ⟨[(.v (.slice none 0 0))], _, rfl, (.inr ⟨rfl, rfl⟩), rfl⟩⟩⟩, ⟨[(.v (.slice none 0 0))], _, rfl, (.inr ⟨rfl, rfl⟩), rfl⟩⟩⟩⟩⟩⟩⟩, ⟨⟨rfl, rfl, rfl, ⟨[(.v (.int .i64 2))], _, rfl, rfl, ⟨[(.v (.string (⟨#[43]⟩)))], _, rfl, rfl, ⟨[(.v (.string (⟨#[88]⟩)))], _, rfl, rfl, ⟨[(.v (.int .i64 0))], _, rfl, rfl, ⟨[(.v (.int .i64 0)), (.v (.string ByteArray.empty)), (.v (.slice none 0 0))], _, rfl, ⟨[(.v (.int .i64 0))], _, rfl, rfl, ⟨[(.v (.string ByteArray.empty))], _, rfl, rfl, ⟨[(.v (.slice none 0 0))], _, rfl, (.inr ⟨rfl, rfl⟩), rfl⟩⟩⟩, ⟨[(.v (.slice none 0 0))], _, rfl, (.inr ⟨rfl, rfl⟩), rfl⟩⟩⟩⟩⟩⟩⟩, ⟨⟨rfl, rfl, rfl, ⟨[(.v (.int .i64 2))], _, rfl, rfl, ⟨[(.v (.string (⟨#[45]⟩)))], _, rfl, rfl, ⟨[(.v (.string (⟨#[89]⟩)))], _, rfl, rfl, ⟨[(.v (.int .i64 0))], _, rfl, rfl, ⟨[(.v (.int .i64 0)), (.v (.string ByteArray.empty)), (.v (.slice none 0 0))], _, rfl, ⟨[(.v (.int .i64 0))], _, rfl, rfl, ⟨[(.v (.string ByteArray.empty))], _, rfl, rfl, ⟨[(.v (.slice none 0 0))], _, rfl, (.inr ⟨rfl, rfl⟩), rfl⟩⟩⟩, ⟨[(.v (.slice none 0 0))], _, rfl, (.inr ⟨rfl, rfl⟩), rfl⟩⟩⟩⟩⟩⟩⟩, trivial⟩⟩⟩ rfl (by simp only [Pt.encL_eq, List.map_cons, List.map_nil, Pt.enc_eq] <;> rfl) (by decide) (by decide) ?_
      intro a45
      refine (W14_sample_spec n  _ h2).atR [] rfl rfl rfl ?_
      rintro _ _ ⟨a46, c46, rfl, rfl⟩
      refine ⟨fun _ _ h => h, ?_⟩
      refine Meets.nilRep 3 ?_
      refine (mode_Read_spec n v1 (It.mk (⟨#[109, 111, 100, 101]⟩) ByteArray.empty (Rw.mk 0 ByteArray.empty ([])) ([(Pt.mk 1 ByteArray.empty (⟨#[100, 111, 117, 98, 108, 101]⟩) 0 (Rw.mk 0 ByteArray.empty ([])) ([])), (Pt.mk 2 (⟨#[43]⟩) (⟨#[88]⟩) 0 (Rw.mk 0 ByteArray.empty ([])) ([])), (Pt.mk 2 (⟨#[45]⟩) (⟨#[89]⟩) 0 (Rw.mk 0 ByteArray.empty ([])) ([]))])) a46 c46 none 0 a45 3 _ h6).atR [2, 0, 1] rfl rfl rfl ?_
      rintro _ _ ⟨a47, c47, rfl, rfl⟩
      refine ⟨fun _ _ h => h, ?_⟩
      refine AtGuard.mk (fun h11 => ?_) (fun h11 => ?_)
      · replace hr := cond_f h11 hr
        obtain ⟨v12, h13, hr⟩ := bind_some hr
        obtain ⟨h14, h15⟩ := idx_some h13
        refine at_index ttOK 3 rfl rfl rfl rfl h14 (map_get (D.int .i64) h15) ?_
        refine AtGuard.mk (fun h16 => ?_) (fun h16 => ?_)
        · replace hr := cond_f h16 hr
          obtain ⟨v17, h18, hr⟩ := bind_some hr
          obtain ⟨h19, h20⟩ := idx_some h18
          refine at_index ttOK 3 rfl rfl rfl rfl h19 (map_get (D.int .i64) h20) ?_
          refine AtIf.mk (fun h21 => ?_) (fun h21 => ?_)
          · replace hr := cond_t h21 hr
            replace hr := Option.some.inj hr
            subst hr
            exact AtRet.pureG [] [] rfl rfl ⟨rfl, rfl⟩
          · replace hr := cond_f h21 hr
            obtain ⟨v22, h23, hr⟩ := bind_some hr
            obtain ⟨v26, h27, hr⟩ := bind_some hr
            refine ⟨?_, ?_⟩
            ·
              refine (W14_sample_spec n  _ h23).atR [] rfl rfl rfl ?_
              rintro _ _ ⟨a28, c28, rfl, rfl⟩
              refine ⟨fun _ _ h => h, ?_⟩
              refine at_buildG (n := 1) ttOK 32 [.agg [.int .i64 v5.1.family, .sl 1 (List.map (D.int .i64) v5.1.signs)]] (ds' := (Md.encL ([v5.1]))) rfl (by kernel_rfl) ⟨⟨rfl, rfl, rfl, ⟨[(.v (.int .i64 v5.1.family))], _, rfl, rfl, ⟨[(.v (.slice a47 ((List.map (D.int .i64) v5.1.signs).length) c47))], _, rfl, (.inl ⟨_, rfl, nth_mem (j := 3) rfl⟩), rfl⟩⟩⟩, trivial⟩ rfl (by simp only [Md.encL_eq, List.map_cons, List.map_nil, Md.enc_eq] <;> rfl) (by decide) (by decide) ?_
              intro a29
              refine (mode_Check_spec n v22 ([v5.1]) 4 a28 c28 a29 1 _ h27).atR [4, 5] rfl rfl rfl ?_
              rintro _ _ ⟨rfl, rfl⟩
              refine AtIf.mk (fun h30 => ?_) (fun h30 => ?_)
              · replace hr := cond_t h30 hr
                replace hr := Option.some.inj hr
                subst hr
                exact AtRet.pureG [] [] rfl rfl ⟨rfl, rfl⟩
              · replace hr := cond_f h30 hr
                replace hr := Option.some.inj hr
                subst hr
                exact AtRet.pureG [] [] rfl rfl ⟨rfl, rfl⟩
            ·
              refine at_buildG (n := 1) ttOK 32 [.agg [.int .i64 v5.1.family, .sl 1 (List.map (D.int .i64) v5.1.signs)]] (ds' := (Md.encL ([v5.1]))) rfl (by kernel_rfl) ⟨⟨rfl, rfl, rfl, ⟨[(.v (.int .i64 v5.1.family))], _, rfl, rfl, ⟨[(.v (.slice a47 ((List.map (D.int .i64) v5.1.signs).length) c47))], _, rfl, (.inl ⟨_, rfl, nth_mem (j := 3) rfl⟩), rfl⟩⟩⟩, trivial⟩ rfl (by simp only [Md.encL_eq, List.map_cons, List.map_nil, Md.enc_eq] <;> rfl) (by decide) (by decide) ?_
              intro a31
              refine (W14_sample_spec n  _ h23).atR [] rfl rfl rfl ?_
              rintro _ _ ⟨a32, c32, rfl, rfl⟩
              refine ⟨fun _ _ h => h, ?_⟩
              refine (mode_Check_spec n v22 ([v5.1]) 4 a32 c32 a31 1 _ h27).atR [5, 4] rfl rfl rfl ?_
              rintro _ _ ⟨rfl, rfl⟩
              refine AtIf.mk (fun h30 => ?_) (fun h30 => ?_)
              · replace hr := cond_t h30 hr
                replace hr := Option.some.inj hr
                subst hr
                exact AtRet.pureG [] [] rfl rfl ⟨rfl, rfl⟩
              · replace hr := cond_f h30 hr
                replace hr := Option.some.inj hr
                subst hr
                exact AtRet.pureG [] [] rfl rfl ⟨rfl, rfl⟩
        · replace hr := cond_t h16 hr
          refine AtIf.mk (fun _ => ?_) (fun h => tf h)
          replace hr := Option.some.inj hr
          subst hr
          exact AtRet.pureG [] [] rfl rfl ⟨rfl, rfl⟩
      · replace hr := cond_t h11 hr
        refine AtGuard.mk (fun h => tf h) (fun _ => ?_)
        refine AtIf.mk (fun _ => ?_) (fun h => tf h)
        replace hr := Option.some.inj hr
        subst hr
        exact AtRet.pureG [] [] rfl rfl ⟨rfl, rfl⟩
end Go.Proofs.YtogicnodmgdnbaaGreat
end

/-! CompactLay -/
section
namespace Go.Proofs.YtogicnodmgdnbaaGreat
open Go Go.Shelf
def compactRen : Go.Shelf.Ren := ⟨fun | 20 => 67 | n => n, fun | 22 => 29 | 3 => 3 | 4 => 4 | 0 => 0 | n => n, fun  | n => n⟩
theorem compactLays : Go.Proofs.Lays2.n20 Tryz.prog compactRen := {
  mixed := by kernel_rfl
  f20 := Tryz.func67.trans (congrArg some (by kernel_rfl))
  t0 := Tryz.underlying0
  a0 := Tryz.isAgg0
  z0 := Tryz.sizeOf0
  v0 := Tryz.zeroValue0
  t3 := Tryz.underlying3
  a3 := Tryz.isAgg3
  z3 := Tryz.sizeOf3
  v3 := Tryz.zeroValue3
  t4 := Tryz.underlying4
  a4 := Tryz.isAgg4
  z4 := Tryz.sizeOf4
  v4 := Tryz.zeroValue4
  t22 := Tryz.underlying29
  a22 := Tryz.isAgg29
  z22 := Tryz.sizeOf29
  v22 := Tryz.zeroValue29
  i3 := by kernel_rfl }
end Go.Proofs.YtogicnodmgdnbaaGreat
end

/-! HandS -/
section
namespace Go.Proofs.YtogicnodmgdnbaaGreat
open Go.Tr Go
set_option maxRecDepth 10000

theorem compact_size (zs : List Int) : (Go.Lib.compact zs).length ≤ zs.length := by
  unfold Go.Lib.compact Go.Lib.compactUpTo
  rw [List.length_map]
  exact Nat.le_trans (List.length_filter_le _ _) (by simp)

theorem compact_some (ks : List Int) (b cap : Nat) (hlen : ks.length ≤ 1000000) :
    Meets Tryz.prog (fnS 67) [.v (.slice (some ⟨b, 0, none⟩) ks.length cap)] ⟨[], [⟨.slice (some ⟨b, 0, none⟩) ks.length cap, 1, 3, ks.map (D.int .i64)⟩], []⟩
      (fun o S' => o = .ret (.v (.slice (some ⟨b, 0, none⟩) (Go.Lib.compact ks).length cap)) ∧ S' = ⟨[], [⟨.slice (some ⟨b, 0, none⟩) (Go.Lib.compact ks).length cap, 1, 3, (Go.Lib.compact ks).map (D.int .i64)⟩], []⟩) := by
  intro J ℓ w hG hJ
  have hl : ℓ = [] := by have := hG.len; simpa using this
  subst hl
  have hacc := hG.accs _ (List.mem_singleton.2 rfl)
  rcases hacc with ⟨hv, _⟩ | ⟨g, cp, c, hv, hgb, hcs, hle, hre⟩
  · cases hv
  simp only [List.length_map, Value.slice.injEq, Option.some.injEq, Addr.mk.injEq, and_true, true_and] at hv
  obtain ⟨rfl, rfl⟩ := hv
  simp only [List.length_map] at hle
  have ht := (repE_ints ks c.toList).1 hre
  refine ⟨.enter 67 #[.slice (some ⟨b, 0, none⟩) ks.length cap], ?_, ?_⟩
  · simp only [Cal.sem, SV.den, SV.denL, Deferred.ofValue, Sem.run_bind, Sem.run_pure, Result.andThen_ok, invoke]
    exact Tryz.call67 _ _
  · have hc := Any.slices_Compact_int compactLays b 0 cap ks w (holds_of_blockI hgb ht) (by omega) hle.1
    refine CallsIn.mono ((callsIn_wide (n := 0)).2 hc) ?_
    rintro e w' ⟨rfl, n, rfl⟩
    have hsz := compact_size ks
    generalize hz : Go.Lib.compact ks ++ List.replicate (ks.length - (Go.Lib.compact ks).length) 0 = zs
    have hzl : zs.length = ks.length := by rw [← hz]; simp; omega
    have hgr := grownBy_sortedI (w := w) (g := b) (n := n) (os := #[]) zs.toArray
    have hhs := heap_sortedI (n := n) (os := #[]) zs.toArray hgb
    have eg : Go.Sort.grow (Go.Sort.putRow (Value.int .i64) (Go.Sort.ahead w n) b 0 zs.toArray) #[] = Go.Sort.putRow (Value.int .i64) (Go.Sort.ahead w n) b 0 zs.toArray := Go.Sort.grow_empty _
    rw [eg] at hgr hhs
    have hgood := hG.regrow (j := 0) (a' := ⟨.slice (some ⟨b, 0, none⟩) (Go.Lib.compact ks).length cap, 1, 3, (Go.Lib.compact ks).map (D.int .i64)⟩) (w' := Go.Sort.putRow (Value.int .i64) (Go.Sort.ahead w n) b 0 zs.toArray) hJ rfl hgr.size
      (fun x hx hm => hgr.block x hx (fun e => hm (by simp only [Option.some.injEq] at e; simp [accBlk, e]))) (by simp [accBlk]) (fun x hx => ?_) (fun J' hj => ?_)
    · refine ⟨[], .ret (.v (.slice (some ⟨b, 0, none⟩) (Go.Lib.compact ks).length cap)), _, rfl, rfl, List.prefix_refl _, ⟨hgr.os, hgr.output, hgr.size, fun x hx hm => hgr.block x hx (fun e => hm ?_)⟩, hgood.1, hgood.2, rfl, rfl⟩
      simp only [Option.some.injEq] at e
      simp [mutS, mutL, accBlk, e]
    · simp [accBlk] at hx
      subst hx
      exact ⟨.inl (by simp [accBlk]), lt_of_get hhs⟩
    · refine .inr ⟨b, cap, _, by simp, hhs, by simp [Go.Sort.putCells, hcs], ⟨by simp; omega, by simp; omega⟩, ?_⟩
      rw [repE_ints]
      have h1 := take_putCellsI c zs (by rw [hzl, hcs]; simp; exact hle.1)
      have h2 : List.take (Go.Lib.compact ks).length (zs.map (Value.int .i64)) = (Go.Lib.compact ks).map (Value.int .i64) := by
        rw [← hz, List.map_append, List.take_left' (by simp)]
      rw [← h2, ← h1, List.take_take, Nat.min_eq_left (by omega)]

theorem compact_none : Pure Tryz.prog (fnS 67) [nilS] [] (fun r out => r = nilS ∧ out = []) := by
  refine spec_of_body (N := 61) (m := 0) (dt := drawsOf [(6, .leaf [0, 1, 2, 3, 4, 5, 6, 7, 8, 9], [], []), (11, .leaf [0, 1, 2, 3, 4, 5, 6, 7, 8, 9], [], [])]) [] ttOK Tryz.func67 rfl Tryz.call67 Tryz.ntmps67 rfl rfl rfl mixed (by kernel_rfl) ?_
  refine AtIf.mk (fun _ => ?_) (fun h => by cases h)
  exact AtRet.pure [] rfl (by simp) ⟨rfl, rfl⟩

theorem compact_spec (ks : List Int) (a : Option Addr) (c : Nat) (hlen : ks.length ≤ 1000000) :
    Meets Tryz.prog (fnS 67) [.v (.slice a (List.map (D.int .i64) ks).length c)] ⟨[], [⟨.slice a (List.map (D.int .i64) ks).length c, 1, 3, List.map (D.int .i64) ks⟩], []⟩
      (fun o S' => ∃ (a' : Option Addr) (c' : Nat), o = .ret (.v (.slice a' (List.map (D.int .i64) (Go.Lib.compact ks)).length c')) ∧ S' = ⟨[], [⟨.slice a' (List.map (D.int .i64) (Go.Lib.compact ks)).length c', 1, 3, List.map (D.int .i64) (Go.Lib.compact ks)⟩], []⟩) := by
  refine acc_cases (fun hv hd => ?_) (fun b cap hv => ?_)
  · have hk : ks = [] := by simpa using hd
    subst hk
    simp only [Value.slice.injEq] at hv
    obtain ⟨rfl, _, rfl⟩ := hv
    refine compact_none.at (by simp) rfl rfl ?_
    rintro r out ⟨rfl, rfl⟩
    exact ⟨none, 0, rfl, rfl⟩
  · simp only [Value.slice.injEq] at hv
    obtain ⟨rfl, _, rfl⟩ := hv
    have h := compact_some ks b c hlen
    have e : (List.map (D.int .i64) ks).length = ks.length := List.length_map _
    rw [← e] at h
    refine h.mono ?_
    rintro o S' ⟨rfl, rfl⟩
    refine ⟨some ⟨b, 0, none⟩, c, ?_, ?_⟩ <;> simp only [List.length_map]

end Go.Proofs.YtogicnodmgdnbaaGreat
end
