/- Merged texts: McF McG. The check of modes at the sample: mode.check. Conditions stand in each. mode.check at the sample, in the form that gen.py prints. The condition is sampB. -/
import Derived.Test.YtogicnodmgdnbaaGreatDoorQJ
/-! McF -/
section
namespace Go.Proofs.YtogicnodmgdnbaaGreatDoor
open Go.Tr Go
set_option maxRecDepth 100000

theorem at_build146 {S : St} {K : SV → St → Prop} (h : K set0 S) : AtPure Tryz.prog (fun ℓ => Instr.build 118 (denParts ℓ []).toArray) S K :=
  AtPure.val set0 (by kernel_rfl) (fun ℓ w => by kernel_rfl) h

abbrev sgR (sig : List Dc) (a : Option Addr) (c : Nat) : Value × D := (.slice a ((Dc.encL sig).length) c, .sl 6 (Dc.encL sig))
abbrev mpR (g : List (Int × GE Md)) : Value × D := (agV 1 Md.gp g, agD 1 Md.gp g)
noncomputable abbrev mpB (g : List (Int × GE Md)) : Blk := .obj (mapO .i64 (encM Md.gv g))

/-- The own blocks of check, of its frame. -/
noncomputable abbrev ownC (g : List (Int × GE Md)) (nm : ByteArray) (imp : Int) (p : Int) (b : Option Addr) (c : Nat) : List Blk := [mpB g, .cells 3 [iS 0], .cells 3 [iS 0], .cells 34 [iS 0], .cells 115 [.mp 0, iS p], .cells 113 [.loc 4 0], .imm [.v (.string nm), iS 4, iS 2, iS 3, .v (.slice b 2 c), iS imp]]
/-- The own blocks of assume. -/
noncomputable abbrev ownA (b : Option Addr) (c : Nat) : List Blk := [.cells 113 [.loc 4 0], .cells 55 [iS 4, iS 2, iS 3, .v (.slice b 2 c)], .cells 118 z700, .cells 119 [.fn (.func 71) [] [.loc 5 0]], .cells 53 [nilS], .cells 141 [nilS]]

noncomputable abbrev lpA (b : Bool) : Blk := .lp ⟨111, [], #[79, 80], rfAs Tryz.f70, rfBody Tryz.f70, (match b with | true => .ready | false => .exhausted), none⟩
/-- The own blocks of check, assume, Backward. -/
noncomputable abbrev ownB (g : List (Int × GE Md)) (nm : ByteArray) (imp : Int) (b : Option Addr) (c : Nat) (e : Option Addr) (f : Nat) (r : Bool) : List Blk := ownC g nm imp (-1) b c ++ (ownA b c ++ [.cells 25 [iS 3, .v (.slice e 2 f)], .cells 23 [nilS], lpA r])
/-- The own blocks of demand and args. -/
noncomputable abbrev ownD (b : Option Addr) (c : Nat) (e : Option Addr) (f : Nat) : List Blk := [.cells 113 [.loc 4 0], .cells 140 [nilS], .cells 25 [iS 3, .v (.slice e 2 f)], .cells 55 [iS 4, iS 2, iS 3, .v (.slice b 2 c)], .cells 118 z700, .cells 25 [iS 3, .v (.slice e 2 f)], .cells 55 [iS 4, iS 2, iS 3, .v (.slice b 2 c)]]

set_option maxHeartbeats 8000000 in
theorem check0 (sig : List Dc) (d : Dc) (k : Int) (g : List (Int × GE Md)) (a2 : Option Addr) (c2 : Nat) (hd : idx sig k = some d) (hc : d.cls = dzT) (hg : mget (er g) 3 = some ⟨3, [1, 2]⟩) :
    Meets Tryz.prog (fnS 48) [.v (.slice a2 ((Dc.encL sig).length) c2), .mp 0, iS k] ⟨[mpB g], [], [sgR sig a2 c2, mpR g]⟩ (fun o S' => o = .ret (.tup [iS 0, iS 0, iS 0]) ∧ S' = ⟨[mpB g], [], []⟩) := by
  obtain ⟨nm, cls, imp⟩ := d
  simp only at hc
  subst hc
  obtain ⟨hk0, hk1⟩ := idx_some hd
  refine spec_of_defer (N := 23) (m := 1) (dt := drawsOf [(3, .node [0, 1, 2, 3, 4, 5, 6, 7] [(8, .leaf [])], [8], [])]) (d := 10) (h := 69) [] ttOK Tryz.func48 rfl Tryz.call48 Tryz.ntmps48 rfl rfl rfl mixed (by kernel_rfl) (by kernel_rfl) rfl rfl (fun c h => by cases h) rfl rfl rfl Tryz.call69 3 quietC ?_
  refine ⟨[.loc 1 0, .loc 2 0, .loc 3 0], rfl, rfl, ?_⟩
  refine ⟨rfl, ?_⟩
  refine at_index ttOK 0 rfl rfl rfl rfl hk0 (Dc.encL_get hk1) ?_
  intro b1 d1 _ _
  refine at_build146 ?_
  refine spec_of_body (N := 111) (m := 7) (dt := drawsOf [(8, .node [0, 1, 2, 3, 4, 5] [(6, .node [] [(7, .node [8] [(9, .node [] [(10, .leaf [])]), (10, .node [] [(9, .leaf [])])])])], [7, 9], []), (14, .node [0, 1, 2, 3, 4] [(5, .node [6, 7, 8] [(9, .node [] [(10, .leaf [11])])]), (9, .node [] [(5, .node [6, 7, 8] [(10, .leaf [11])])])], [5], [13]), (20, .node [0, 1, 2, 3, 4, 5, 6, 7, 8, 9, 10, 11, 12, 13, 14, 15] [(16, .node [] [(17, .node [] [(18, .node [] [(19, .leaf [])])])])], [18, 19], [])]) [14] ttOK Tryz.func70 rfl Tryz.call70 Tryz.ntmps70 rfl rfl rfl mixed (by kernel_rfl) ?_
  refine AtLoop.mk ⟨Nat, fun _ => [(5, .loc 7 0), (7, .loc 8 0), (8, .loc 9 0), (9, .loc 10 0), (10, .loc 11 0), (11, .loc 12 0), (12, nilS), (1, nilS)], fun _ => ⟨ownC g nm imp (-1) b1 d1 ++ ownA b1 d1, [], [sgR sig a2 c2, mpR g, dzR b1 d1]⟩, fun _ => True, fun x => x, 0, trivial, ⟨rfl, rfl, rfl, rfl, rfl, rfl, rfl, rfl, trivial⟩, StLe.refl _, fun _ _ => ⟨rfl, rfl⟩, ?_⟩
  rintro _ _
  refine AtIf.mk (fun h => by simp at h) (fun h => ?_)
  have hof : mode_of 1 dzT (er g) = some (⟨3, [1, 2]⟩, true) := by
    rw [mode_of.eq_2]
    simp only [Tm.n, hg]
    rfl
  refine AtCut.mk ⟨Option Addr × Nat, fun x => [(17, bS true), (16, .loc 13 0), (5, .loc 7 0), (7, .loc 8 0), (8, .loc 9 0), (9, .loc 10 0), (12, nilS), (1, nilS)], fun x => ⟨ownC g nm imp (-1) b1 d1 ++ (ownA b1 d1 ++ [.cells 25 [iS 3, .v (.slice x.1 2 x.2)]]), [], [sgR sig a2 c2, mpR g, dzR b1 d1, mdR x.1 x.2]⟩, fun _ => True, fun _ _ => ⟨rfl, rfl⟩, ?_, ?_⟩
  · refine ⟨?_, ?_⟩
    · refine (mode_of_spec 1 dzT g b1 d1 (⟨3, [1, 2]⟩, true) hof).frameR [0] [2, 1] rfl rfl rfl rfl rfl rfl rfl rfl ?_
      rintro _ _ ⟨e1, f1, rfl, rfl⟩
      refine ⟨rfl, rfl, [mpB g], rfl, ?_⟩
      refine ⟨OwnKeptBut.append, ?_⟩
      refine ⟨fun _ _ h => h, ?_⟩
      exact ⟨(e1, f1), trivial, ⟨rfl, rfl, rfl, rfl, rfl, rfl, rfl, rfl, trivial⟩, StLe.gen 14 [] [.old 0, .old 1, .old 2, .old 3] rfl rfl rfl rfl rfl rfl rfl⟩
    · refine ⟨OwnKeptBut.append, ?_⟩
      refine (mode_of_spec 1 dzT g b1 d1 (⟨3, [1, 2]⟩, true) hof).frameR [0] [2, 1] rfl rfl rfl rfl rfl rfl rfl rfl ?_
      rintro _ _ ⟨e1, f1, rfl, rfl⟩
      refine ⟨rfl, rfl, [mpB g], rfl, ?_⟩
      refine ⟨fun _ _ h => h, ?_⟩
      exact ⟨(e1, f1), trivial, ⟨rfl, rfl, rfl, rfl, rfl, rfl, rfl, rfl, trivial⟩, StLe.gen 14 [] [.old 0, .old 1, .old 2, .old 3] rfl rfl rfl rfl rfl rfl rfl⟩
  · rintro ⟨e1, f1⟩ _
    refine AtIf.mk (fun h => by simp at h) (fun h => ?_)
    refine (learn0 e1 b1 f1 d1 1).atR [3, 2] rfl rfl rfl ?_
    rintro _ _ ⟨rfl, rfl⟩
    refine spec_of_body (N := 4) (m := 14) (dt := fun _ => none) [] ttOK Tryz.func98 rfl Tryz.call98 Tryz.ntmps98 rfl rfl rfl mixed (by kernel_rfl) ?_
    refine AtRet.gen _ (StLe.refl _) rfl rfl ?_
    refine AtRange.mk ⟨[], trivial, rfl, rfl, ⟨_, _, _, rfl, Tryz.call126⟩, ?_⟩
    refine spec_of_body (N := 19) (m := 16) (dt := fun _ => none) [] ttOK Tryz.func126 rfl Tryz.call126 Tryz.ntmps126 rfl rfl rfl mixed (by kernel_rfl) ?_
    refine AtLoop.mk ⟨Nat, fun _ => [(3, iS (-1))], fun _ => ⟨ownB g nm imp b1 d1 e1 f1 true, [], [sgR sig a2 c2, mpR g, dzR b1 d1, mdR e1 f1]⟩, fun _ => True, fun x => x, 0, trivial, ⟨rfl, trivial⟩, StLe.refl _, fun _ _ => ⟨rfl, rfl⟩, ?_⟩
    rintro _ _
    refine AtIf.mk (fun h => by simp at h) (fun h => ?_)
    refine AtRet.gen _ (StLe.refl _) rfl rfl ?_
    refine spec_of_body (N := 7) (m := 16) (dt := fun _ => none) [] ttOK Tryz.func71 rfl Tryz.call71 Tryz.ntmps71 rfl rfl rfl mixed (by kernel_rfl) ?_
    refine AtRet.gen _ (StLe.refl _) rfl rfl ?_
    refine spec_of_body (N := 17) (m := 16) (dt := fun _ => none) [] ttOK Tryz.func102 rfl Tryz.call102 Tryz.ntmps102 rfl rfl rfl mixed (by kernel_rfl) ?_
    refine spec_of_body (N := 30) (m := 21) (dt := fun _ => none) [] ttOK Tryz.func122 rfl Tryz.call122 Tryz.ntmps122 rfl rfl rfl mixed (by kernel_rfl) ?_
    refine AtLoop.mk ⟨Int, fun i => [(13, iS i), (12, iS 2), (11, .v (.slice b1 2 d1)), (4, .loc 21 0), (5, .loc 22 0), (2, iS 2), (3, .fn (.func 128) [] [.loc 17 0, .loc 20 0, .loc 16 0])], fun _ => ⟨ownB g nm imp b1 d1 e1 f1 false ++ ownD b1 d1 e1 f1, [], [sgR sig a2 c2, mpR g, dzR b1 d1, mdR e1 f1]⟩, fun i => 0 ≤ i ∧ i ≤ 2, fun i => (2 - i).toNat, 0, by omega, ⟨rfl, rfl, rfl, rfl, rfl, rfl, rfl, trivial⟩, StLe.refl _, fun _ _ => ⟨rfl, rfl⟩, ?_⟩
    rintro i ⟨hi, hi'⟩
    refine AtIf.mk (fun h => ?_) (fun h => ?_)
    · have hi2 : i < 2 := by simpa using h
      have hwi := wrapI hi hi2
      obtain ⟨s, hs⟩ := sg_geti hi hi2
      refine at_index ttOK 2 rfl rfl rfl rfl hi (Tm.encL_get (zz_geti hi hi2)) ?_
      intro b2 d2 _ _
      refine at_index ttOK 3 rfl rfl rfl rfl hi (map_get (D.int .i64) hs) ?_
      refine AtIf.mk (fun h2 => ?_) (fun h2 => ?_)
      · refine spec_of_body (N := 19) (m := 26) (dt := fun _ => none) [] ttOK Tryz.func128 rfl Tryz.call128 Tryz.ntmps128 rfl rfl rfl mixed (by kernel_rfl) ?_
        refine (known0 b2 d2).atR [4] rfl rfl rfl ?_
        rintro _ _ ⟨rfl, rfl⟩
        refine AtIf.mk (fun h => by simp at h) (fun h => ?_)
        refine AtRet.gen _ (StLe.refl _) rfl rfl ?_
        exact ⟨IntKind.i64.wrap (i + 1), by omega, by simp only; omega, ⟨rfl, rfl, rfl, rfl, rfl, rfl, rfl, trivial⟩, StLe.gen 23 [] [.old 0, .old 1, .old 2, .old 3] rfl rfl rfl rfl rfl rfl rfl⟩
      · exact ⟨IntKind.i64.wrap (i + 1), by omega, by simp only; omega, ⟨rfl, rfl, rfl, rfl, rfl, rfl, rfl, trivial⟩, StLe.gen 23 [] [.old 0, .old 1, .old 2, .old 3] rfl rfl rfl rfl rfl rfl rfl⟩
    · refine AtRet.gen _ (StLe.refl _) rfl rfl ?_
      refine AtRet.gen _ (StLe.refl _) rfl rfl ?_
      refine AtRet.gen _ (StLe.refl _) rfl rfl ?_
      exact AtRet.gen ⟨[mpB g], [], []⟩ (StLe.gen 1 [] [] rfl rfl rfl rfl rfl rfl rfl) rfl rfl ⟨rfl, rfl⟩
end Go.Proofs.YtogicnodmgdnbaaGreatDoor
end

/-! McG -/
section
namespace Go.Proofs.YtogicnodmgdnbaaGreatDoor
open Go.Tr Go
set_option maxRecDepth 10000

mutual
theorem sameF_iff14 : ∀ (a b : Tm), sameF a b = true ↔ a = b
  | .mk o h n us, .mk o' h' n' vs => by
    simp only [sameF, Tm.op, Tm.hd, Tm.n, Tm.args, Bool.and_eq_true, beq_iff_eq, Tm.mk.injEq]
    constructor
    · rintro ⟨⟨⟨h1, h2⟩, h3⟩, h4, h5⟩
      exact ⟨h1, h2, h3, (sameL_iff14 us vs h4).1 h5⟩
    · rintro ⟨h1, h2, h3, h4⟩
      exact ⟨⟨⟨h1, h2⟩, h3⟩, by rw [h4], (sameL_iff14 us vs (by rw [h4])).2 h4⟩
theorem sameL_iff14 : ∀ (us vs : List Tm), us.length = vs.length → (sameL us vs = true ↔ us = vs)
  | [], [], _ => by simp [sameL]
  | u :: us, v :: vs, h => by
    simp only [sameL, Bool.and_eq_true, List.cons.injEq, sameF_iff14 u v, sameL_iff14 us vs (by simpa using h)]
  | [], _ :: _, h => by simp at h
  | _ :: _, [], h => by simp at h
 end

/-- The constant dz, and the mode of double. -/
def sampB (sig : List Dc) (k : Int) (g : List (Int × Md)) : Bool := match idx sig k with
  | some d => sameF d.cls dzT && (match mget g 3 with
    | some m => m.family == 3 && m.signs == [1, 2]
    | none => false)
  | none => false
def mode_check (_ : Nat) (sig : List Dc) (k : Int) (g : List (Int × Md)) : Option (Int × Int × Int) := cond (sampB sig k g) (some (0, 0, 0)) none
theorem mode_check_spec (n : Nat) (v1 : (List Dc)) (v3 : Int) (g5 : (List (Int × GE Md))) (a2 : Option Addr) (c2 : Nat) (r : Int × Int × Int) (hr : mode_check n v1 v3 (er g5) = some r) : Meets Tryz.prog (.val (.fn (.func 48) [] [])) [(.v (.slice a2 ((Dc.encL v1).length) c2)), (.mp 0), (.v (.int .i64 v3))] ⟨[.obj (mapO .i64 (encM Md.gv g5))], [], [(.slice a2 ((Dc.encL v1).length) c2, .sl 6 (Dc.encL v1)), (agV 1 Md.gp g5, agD 1 Md.gp g5)]⟩ (fun o S' => o = .ret (.tup [(.v (.int .i64 r.1)), (.v (.int .i64 r.2.1)), (.v (.int .i64 r.2.2))]) ∧ S' = ⟨[.obj (mapO .i64 (encM Md.gv g5))], [], []⟩) := by
  unfold mode_check at hr
  cases hb : sampB v1 v3 (er g5) with
  | false => rw [hb] at hr; cases hr
  | true =>
    rw [hb] at hr
    simp only [cond_true, Option.some.injEq] at hr
    subst hr
    unfold sampB at hb
    split at hb
    · rename_i d hd
      rw [Bool.and_eq_true] at hb
      obtain ⟨h1, h2⟩ := hb
      split at h2
      · rename_i m hm
        simp only [Bool.and_eq_true, beq_iff_eq] at h2
        have hm' : m = ⟨3, [1, 2]⟩ := by cases m; simp only at h2; obtain ⟨rfl, rfl⟩ := h2; rfl
        subst hm'
        exact check0 v1 d v3 g5 a2 c2 hd ((sameF_iff14 _ _).1 h1) hm
      · cases h2
    · cases hb
end Go.Proofs.YtogicnodmgdnbaaGreatDoor
end
