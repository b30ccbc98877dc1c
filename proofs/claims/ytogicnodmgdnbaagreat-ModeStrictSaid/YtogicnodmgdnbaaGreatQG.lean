/- Merged texts: HandF McA McB McC McD FwU McE Gm Reverse. Contracts proved by hand, in the form that gen.py prints: term.Free. Conditions stand in each. The check of modes at the sample: sets without variables. Conditions stand in each. The check of modes at the sample: constants without arguments. Conditions stand in each. The check of modes at the sample: what is known. Conditions stand in each. The check of modes at the sample: what is learned. Conditions stand in each. A contract of a function that defers a closure which does nothing where the function returns. Conditions stand in the rule. The check of modes at the sample: the deferred closure. Conditions stand in each. Maps from ints to structs with one slice each: what is known of all entries together. No condition: lemmas for the texts that gen.py prints. The contract of slices.Reverse at a slice of strings that the run has made. Condition: at most a million strings. -/
import Derived.Test.YtogicnodmgdnbaaGreatQF
import Derived.RecoverIn
import Derived.Tactics
import Derived.Tactics2
import Derived.TacticsInMore
import Derived.RegionIn
import Derived.Laws.Pointers
/-! HandF -/
section
namespace Go.Proofs.YtogicnodmgdnbaaGreat
open Go.Tr Go
set_option maxRecDepth 10000

/-- What term.Free answers. -/
def freeL (t : Tm) : List Int := if isProper t = true then numsOf freeOf t else []
def freeE (t : Tm) : Int := if isProper t = true then 0 else 2

theorem free0 (t : Tm) (a : Option Addr) (c : Nat) :
    Pure Tryz.prog (fnS 60) [tmS t a c] [tmR t a c]
      (fun r out => ∃ (b1 : Option Addr) (d1 : Nat), r = .tup [.v (.slice b1 (List.map (D.int .i64) (freeL t)).length d1), iS (freeE t)] ∧ out = [(.slice b1 (List.map (D.int .i64) (freeL t)).length d1, .sl 1 (List.map (D.int .i64) (freeL t)))]) := by
  refine spec_of_body (N := 8) (m := 0) (dt := fun _ => none) [] ttOK Tryz.func60 rfl Tryz.call60 Tryz.ntmps60 rfl rfl rfl mixed (by kernel_rfl) ?_
  refine (numbers_spec 108 freeOf free1_spec t a c).opened.at (by simp) rfl rfl ?_
  rintro r out ⟨⟨hp, rfl, rfl⟩ | ⟨hp, v, rfl, rfl⟩, ho⟩
  · have e1 : freeL t = [] := by rw [freeL, hp]; rfl
    have e2 : freeE t = 2 := by rw [freeE, hp]; rfl
    rw [e1, e2]
    exact AtRet.pureG [.nil 1] [(.slice none 0 0, .sl 1 [])] rfl rfl ⟨none, 0, rfl, rfl⟩
  · have e1 : freeL t = numsOf freeOf t := by rw [freeL, if_pos hp]
    have e2 : freeE t = 0 := by rw [freeE, if_pos hp]
    obtain ⟨a', c', rfl, hle, hle2⟩ := ho _ (List.mem_singleton.2 rfl)
    rw [e1, e2]
    exact AtRet.pureG [.old 1] _ rfl rfl ⟨a', c', rfl, rfl⟩

end Go.Proofs.YtogicnodmgdnbaaGreat
end

/-! McA -/
section
namespace Go.Proofs.YtogicnodmgdnbaaGreat
open Go.Tr Go
set_option maxRecDepth 100000

/-- The set of no variables. -/
abbrev z700 : List SV := List.replicate 700 (.v (.bool false))
abbrev set0 : SV := .agg z700

set_option maxHeartbeats 4000000 in
theorem plus0 : Pure Tryz.prog (fnS 172) [set0, nilS] [] (fun r out => r = set0 ∧ out = []) := by
  refine spec_of_body (N := 17) (m := 0) (dt := fun _ => none) [] ttOK Tryz.func172 rfl Tryz.call172 Tryz.ntmps172 rfl rfl rfl mixed (by kernel_rfl) ?_
  refine AtLoop.mk ⟨Nat, fun _ => [(9, iS 0), (8, iS 0), (7, nilS), (4, .loc 1 0), (2, .loc 0 0)], fun _ => ⟨[.cells 146 z700, .cells 146 z700], [], []⟩, fun _ => True, fun x => x, 0, trivial, ⟨rfl, rfl, rfl, rfl, rfl, trivial⟩, StLe.refl _, fun _ _ => ⟨rfl, rfl⟩, ?_⟩
  rintro _ _
  refine AtIf.mk (fun h => ?_) (fun h => ?_)
  · simp at h
  · exact AtRet.pure [] rfl (by simp) ⟨rfl, rfl⟩
end Go.Proofs.YtogicnodmgdnbaaGreat
end

/-! McB -/
section
namespace Go.Proofs.YtogicnodmgdnbaaGreat
open Go.Tr Go
set_option maxRecDepth 100000

/-- A constant without arguments. -/
abbrev atm (n : Int) (a : Option Addr) (c : Nat) : SV := .agg [iS 4, iS 2, iS n, .v (.slice a 0 c)]

set_option maxHeartbeats 4000000 in
theorem strict0 (n : Int) (a : Option Addr) (c : Nat) : Pure Tryz.prog (fnS 65) [nilS, atm n a c] [] (fun r out => r = nilS ∧ out = []) := by
  refine spec_of_body (N := 12) (m := 0) (dt := fun _ => none) [] ttOK Tryz.func65 rfl Tryz.call65 Tryz.ntmps65 rfl rfl rfl mixed (by kernel_rfl) ?_
  refine spec_of_body (N := 62) (m := 4) (dt := drawsOf [(8, .node [0, 1, 2, 3, 4] [(5, .node [6] [(7, .leaf [])])], [7], [])]) [] ttOK Tryz.func110 rfl Tryz.call110 Tryz.ntmps110 rfl rfl rfl mixed (by kernel_rfl) ?_
  refine spec_of_body (N := 18) (m := 5) (dt := fun _ => none) [] ttOK Tryz.func111 rfl Tryz.call111 Tryz.ntmps111 rfl rfl rfl mixed (by kernel_rfl) ?_
  refine AtRet.gen _ (StLe.refl _) rfl rfl ?_
  refine AtGuard.mk (fun h => by simp at h) (fun h => ?_)
  refine AtIf.mk (fun h => by simp at h) (fun h => ?_)
  refine AtLoop.mk ⟨Nat, fun _ => [(48, iS 0), (47, iS 0)], fun _ => ⟨[.cells 106 [nilS], .cells 47 [iS 4, iS 2, iS n, .v (.slice a 0 c)], .cells 29 [nilS], .cells 156 [.fn (.func 110) [] [.loc 0 0, .loc 2 0, .loc 3 0]], .cells 47 [iS 4, iS 2, iS n, .v (.slice a 0 c)]], [], []⟩, fun _ => True, fun x => x, 0, trivial, ⟨rfl, rfl, trivial⟩, StLe.refl _, fun _ _ => ⟨rfl, rfl⟩, ?_⟩
  rintro _ _
  refine AtIf.mk (fun h => by simp at h) (fun h => ?_)
  refine AtRet.gen _ (StLe.refl _) rfl rfl ?_
  exact AtRet.pure [] rfl (by simp) ⟨rfl, rfl⟩
end Go.Proofs.YtogicnodmgdnbaaGreat
end

/-! McC -/
section
namespace Go.Proofs.YtogicnodmgdnbaaGreat
open Go.Tr Go
set_option maxRecDepth 100000

theorem free_z : freeL (.mk 4 2 1 []) = [] := by
  have h : numsOf freeOf (.mk 4 2 1 []) = [] := by
    have h0 : ((walkF (noteStep freeOf) (.mk 4 2 1 []) [] 0).map (·.1)) = [] := rfl
    unfold numsOf
    rw [h0]
    simp [sorted]
  unfold freeL
  rw [h]
  split <;> rfl

set_option maxHeartbeats 4000000 in
theorem known0 (a : Option Addr) (c : Nat) : Pure Tryz.prog (fnS 176) [nilS, atm 1 a c, set0] [(.slice a 0 c, .sl 4 [])] (fun r out => r = bS true ∧ out = []) := by
  refine spec_of_body (N := 18) (m := 0) (dt := fun _ => none) [] ttOK Tryz.func176 rfl Tryz.call176 Tryz.ntmps176 rfl rfl rfl mixed (by kernel_rfl) ?_
  refine (free0 (.mk 4 2 1 []) a c).atR [0] rfl rfl rfl ?_
  rintro _ _ ⟨b1, d1, rfl, rfl⟩
  rw [free_z]
  refine spec_of_body (N := 9) (m := 3) (dt := fun _ => none) [] ttOK Tryz.func135 rfl Tryz.call135 Tryz.ntmps135 rfl rfl rfl mixed (by kernel_rfl) ?_
  refine spec_of_body (N := 19) (m := 3) (dt := fun _ => none) [] ttOK Tryz.func169 rfl Tryz.call169 Tryz.ntmps169 rfl rfl rfl mixed (by kernel_rfl) ?_
  refine AtLoop.mk ⟨Nat, fun _ => [(8, iS 0), (7, iS 0)], fun _ => ⟨[.cells 106 [nilS], .cells 47 [iS 4, iS 2, iS 1, .v (.slice a 0 c)], .cells 146 z700], [], []⟩, fun _ => True, fun x => x, 0, trivial, ⟨rfl, rfl, trivial⟩, StLe.gen 3 [] [] rfl rfl rfl rfl rfl rfl rfl, fun _ _ => ⟨rfl, rfl⟩, ?_⟩
  rintro _ _
  refine AtIf.mk (fun h => by simp at h) (fun h => ?_)
  refine AtRet.gen _ (StLe.refl _) rfl rfl ?_
  refine AtRet.gen _ (StLe.refl _) rfl rfl ?_
  exact AtRet.pure [] rfl (by simp) ⟨rfl, rfl⟩
end Go.Proofs.YtogicnodmgdnbaaGreat
end

/-! McD -/
section
namespace Go.Proofs.YtogicnodmgdnbaaGreat
open Go.Tr Go
set_option maxRecDepth 100000

abbrev zT : Tm := .mk 4 2 1 []
abbrev dzT : Tm := .mk 4 2 3 [zT, zT]
abbrev mdS (a : Option Addr) (c : Nat) : SV := .agg [iS 3, .v (.slice a 2 c)]
abbrev mdR (a : Option Addr) (c : Nat) : Value × D := (.slice a 2 c, .sl 1 (List.map (D.int .i64) [1, 2]))
abbrev dzS (a : Option Addr) (c : Nat) : SV := .agg [iS 4, iS 2, iS 3, .v (.slice a 2 c)]
abbrev dzR (a : Option Addr) (c : Nat) : Value × D := (.slice a 2 c, .sl 4 (Tm.encL [zT, zT]))

theorem zz_get {i : Nat} (h : i < 2) : [zT, zT][i]? = some zT := by
  rcases i with _ | _ | i
  · rfl
  · rfl
  · omega
theorem sg_get {i : Nat} (h : i < 2) : ∃ s : Int, [(1 : Int), 2][i]? = some s := ⟨_, List.getElem?_eq_getElem (by simpa using h)⟩

theorem zz_geti {i : Int} (h0 : 0 ≤ i) (h : i < 2) : [zT, zT][i.toNat]? = some zT := zz_get (by omega)
theorem sg_geti {i : Int} (h0 : 0 ≤ i) (h : i < 2) : ∃ s : Int, [(1 : Int), 2][i.toNat]? = some s := sg_get (by omega)
theorem wrapI {i : Int} (h0 : 0 ≤ i) (h : i < 2) : IntKind.i64.wrap (i + 1) = i + 1 := wrap_i64 (by omega) (by omega)

set_option maxHeartbeats 4000000 in
theorem learn0 (a1 a2 : Option Addr) (c1 c2 : Nat) (sg : Int) : Pure Tryz.prog (fnS 139) [nilS, mdS a1 c1, dzS a2 c2, iS sg, set0] [mdR a1 c1, dzR a2 c2] (fun r out => r = set0 ∧ out = []) := by
  refine spec_of_body (N := 17) (m := 0) (dt := fun _ => none) [] ttOK Tryz.func139 rfl Tryz.call139 Tryz.ntmps139 rfl rfl rfl mixed (by kernel_rfl) ?_
  refine spec_of_body (N := 30) (m := 5) (dt := fun _ => none) [] ttOK Tryz.func170 rfl Tryz.call170 Tryz.ntmps170 rfl rfl rfl mixed (by kernel_rfl) ?_
  refine AtLoop.mk ⟨Int, fun i => [(13, iS i), (12, iS 2), (11, .v (.slice a2 2 c2)), (4, .loc 5 0), (5, .loc 6 0), (2, iS sg), (3, .fn (.func 171) [] [.loc 3 0, .loc 0 0])], fun _ => ⟨[.cells 106 [nilS], .cells 31 [iS 3, .v (.slice a1 2 c1)], .cells 47 [iS 4, iS 2, iS 3, .v (.slice a2 2 c2)], .cells 146 z700, .cells 146 z700, .cells 31 [iS 3, .v (.slice a1 2 c1)], .cells 47 [iS 4, iS 2, iS 3, .v (.slice a2 2 c2)]], [], [mdR a1 c1, dzR a2 c2]⟩, fun i => 0 ≤ i ∧ i ≤ 2, fun i => (2 - i).toNat, 0, by omega, ⟨rfl, rfl, rfl, rfl, rfl, rfl, rfl, trivial⟩, StLe.refl _, fun _ _ => ⟨rfl, rfl⟩, ?_⟩
  rintro i ⟨hi, hi'⟩
  refine AtIf.mk (fun h => ?_) (fun h => ?_)
  · have hi2 : i < 2 := by simpa using h
    have hwi := wrapI hi hi2
    obtain ⟨s, hs⟩ := sg_geti hi hi2
    refine at_index ttOK 1 rfl rfl rfl rfl hi (Tm.encL_get (zz_geti hi hi2)) ?_
    intro b1 d1 _ _
    refine at_index ttOK 0 rfl rfl rfl rfl hi (map_get (D.int .i64) hs) ?_
    refine AtIf.mk (fun h2 => ?_) (fun h2 => ?_)
    · refine spec_of_body (N := 11) (m := 10) (dt := drawsOf [(1, .node [0, 1, 2] [(3, .node [] [(4, .node [] [(5, .leaf [])])])], [4, 5], [])]) [] ttOK Tryz.func171 rfl Tryz.call171 Tryz.ntmps171 rfl rfl rfl mixed (by kernel_rfl) ?_
      refine (strict0 1 b1 d1).atR [] rfl rfl rfl ?_
      rintro _ _ ⟨rfl, rfl⟩
      refine ⟨fun _ _ h => h, ?_⟩
      refine plus0.atR [] rfl rfl rfl ?_
      rintro _ _ ⟨rfl, rfl⟩
      refine AtRet.gen _ (StLe.refl _) rfl rfl ?_
      exact ⟨IntKind.i64.wrap (i + 1), by omega, by simp only; omega, ⟨rfl, rfl, rfl, rfl, rfl, rfl, rfl, trivial⟩, StLe.gen 7 [] [.old 0, .old 1] rfl rfl rfl rfl rfl rfl rfl⟩
    · exact ⟨IntKind.i64.wrap (i + 1), by omega, by simp only; omega, ⟨rfl, rfl, rfl, rfl, rfl, rfl, rfl, trivial⟩, StLe.gen 7 [] [.old 0, .old 1] rfl rfl rfl rfl rfl rfl rfl⟩
  · refine AtRet.gen _ (StLe.refl _) rfl rfl ?_
    exact AtRet.pure [] rfl (by simp) ⟨rfl, rfl⟩
end Go.Proofs.YtogicnodmgdnbaaGreat
end

/-! FwU -/
section
namespace Go.Tr
open Go
set_option linter.unusedSimpArgs false

section
variable {P : Program} {tt : Tab} {c : Cx} {ℓ : List Base} {kn : Atoms} {gen : Gen} {env : Env} {S : St} {a : Act} {w : World}

/-- The end of a function that does not panic. -/
def vcEndQ (tt : Tab) (m : Nat) (rs : List ResultVar) (R : Out → St → Prop) : X → Env → St → Prop
  | .pan _, _, _ => False
  | x, env, S => vcEnd tt m rs R x env S

/-- One call more is deferred. -/
theorem Inv.deferred (hI : Inv c ℓ kn gen env S a w) {d : Deferred} (hd : ∃ fv cap, d.target = .fn fv cap) : Inv { c with base := d :: c.base } ℓ kn gen env S { a with defers := d :: a.defers } w := by
  obtain ⟨fv, cap, ht⟩ := hd
  have h1 : marksOf (d :: a.defers) = marksOf a.defers := by simp only [marksOf, ht]
  have h2 : restOf (d :: a.defers) = d :: restOf a.defers := by simp only [restOf, ht]
  refine ⟨hI.size, ⟨by rw [h2, hI.defers.eq], by rw [h1]; exact hI.defers.nodup, fun r hr => hI.defers.blk r (by rw [h1] at hr; exact hr)⟩, hI.env, hI.gen, hI.kn, ?_, hI.fresh0, hI.pre, hI.ext, hI.fresh⟩
  exact hI.good.toJ (fun b _ hb => ⟨hb.1, by rw [h1]; exact hb.2⟩)

theorem spec_of_defer {f : FuncId} {fn : Func} {A B : Code} {id : Nat} {o1 o2 : Oper} {d : Nat} {h : FuncId} {tys : Array TypeId} {N m : Nat} {dt : Draws} {caps args : List SV} {R : Out → St → Prop} (cuts : List Nat) (hT : TTOK P tt) (hf : P.funcs[f]? = some fn)
    (hb : fn.body = some (A.seq ((Code.region id #[o1, o2] false).seq B))) (hcall : ∀ ag w, (callFunc f ag).run P w = .ok (.enter f ag) w)
    (hN : fn.ntmps = N) (hle : Nat.ble (args ++ caps).length N = true) (hwf : SV.wfL S.own.length (args ++ caps) = true) (hm : S.own.length = m)
    (hD : P.follows .mixedOrders = true) (hdrA : DrawsOK dt A = true) (hdrB : DrawsOK dt B = true)
    (h1g : o1.guard = none) (h1d : o1.dst = some d) (h1o : ∀ c, o1.op ≠ .defer c) (h2g : o2.guard = none) (h2d : o2.dst = none) (h2o : o2.op = .defer { callee := .value (.tmp d), args := #[], argTypes := tys })
    (hcallh : ∀ ag w, (callFunc h ag).run P w = .ok (.enter h ag) w) (k : Nat) (hq : ∀ (ag : Array Value) (w : World), ag.size = k → CallsDIn (fen none) 0 P h ag .returning w (fun e u' w' => (∃ v, e = .returned v) ∧ u' = .returning ∧ w' = w))
    (hv : vcC P tt N m none dt A cuts (seqK (fun env S => ∃ cs, cs.length = k ∧ stepPure tt S.own [] (getter [] env []) o1.op = some (.fn (.func h) [] cs) ∧ putK N (some d) (.fn (.func h) [] cs) [] [] env (fun env' => find env' d = some (.fn (.func h) [] cs) ∧ vcC P tt N m none dt B cuts (vcEndQ tt m fn.results.toList R) env' S)) (fun _ _ _ => False)) (argEnv 0 (args ++ caps)) S) : Meets P (.val (.fn (.func f) [] caps)) args S R := by
  intro J ℓ w hG hJ
  refine ⟨.enter f (SV.denL ℓ (args ++ caps)).toArray, ?_, ?_⟩
  · simp only [Cal.sem, SV.den, SV.denL, Deferred.ofValue, Sem.run_bind, Sem.run_pure, Result.andThen_ok, invoke, SV.denL_append]
    simpa using hcall _ w
  · let c : Cx := ⟨J, ℓ, S, w, N, none, []⟩
    have hsz : (SV.denL ℓ (args ++ caps)).toArray.size ≤ fn.ntmps := by
      rw [List.size_toArray, SV.denL_length, hN]; exact Nat.le_of_ble_eq_true hle
    have hI : Inv c ℓ [] [] (argEnv 0 (args ++ caps)) S { tmps := (SV.denL ℓ (args ++ caps)).toArray ++ Array.replicate (fn.ntmps - (SV.denL ℓ (args ++ caps)).toArray.size) undef, defers := [] } w := by
      refine ⟨?_, ⟨rfl, by simp [marksOf], by simp [marksOf]⟩, ?_, fun t s tags h => by simp [gfind] at h, by simp [Holds], hG.toJ (fun b _ hb => ⟨hb, by simp [marksOf]⟩), hJ, List.prefix_refl _, Ext.refl _ _, fun b hb => .inl hb⟩
      · rw [Array.size_append, Array.size_replicate]; show _ = N; omega
      · intro t s hs
        obtain ⟨_, hs⟩ := argEnv_spec _ _ _ _ hs
        rw [Nat.sub_zero] at hs
        refine ⟨SV.wfL_iff.1 hwf s (List.mem_of_getElem? hs), ?_⟩
        have hlt : t < (args ++ caps).length := (List.getElem?_eq_some_iff.1 hs).1
        have hget : (SV.denL ℓ (args ++ caps))[t]? = some (s.den ℓ) := by rw [denL_get, hs]; rfl
        rw [Array.getD_eq_getD_getElem?, Array.getElem?_append_left (by rw [List.size_toArray, SV.denL_length]; exact hlt)]
        simp [hget]
    have hm' : c.ℓ0.length = m := by rw [← hm]; exact hG.len
    refine callsIn_of_wp_marks (F := fen none) hf hb trivial (wpIn_seq (wpIn_mono (vcC_sound (c := c) rfl hm' hT (fun i hi => by cases hi) hD A hdrA cuts _ ℓ _ S _ w hI hv) ?_))
    intro e a1 w1 hq1
    cases e with
    | normal =>
      obtain ⟨ℓ1, env1, S1, hI1, cs, hk, hs1, hp1⟩ := hq1
      refine wpIn_seq (wp_ops_region ?_)
      show wpOpsIn (fen none) 0 P #[o1, o2] _ [0, 1] a1 w1
      have hpure := stepPure_sound (hI1.pctx hT (by simp [Holds])) o1 hs1
      obtain ⟨env2, ⟨hfd, hB⟩, hI2⟩ := putK_sound (N := N) (c := c) rfl hI1 hpure.1 hp1
      refine wpOps_some (ro := none) (o := o1) rfl ?_
      rw [if_pos (by simp [Region.wanted, h1g])]
      refine up_wp h1o (wp_of_value hpure.2 ?_)
      rw [h1d]
      refine wpOps_some (ro := none) (o := o2) rfl ?_
      rw [if_pos (by simp [Region.wanted, h2g])]
      have hev := hI2.env d _ hfd
      have hden : (SV.fn (.func h) [] cs).den ℓ1 = .func (.func h) #[] (SV.denL ℓ1 cs).toArray := by simp [SV.den, SV.denL]
      have hres : (execOp (a1.put (some d) ((SV.fn (.func h) [] cs).den ℓ1)).eval o2).run P w1 = .ok (.defer { target := .fn (.func h) (SV.denL ℓ1 cs).toArray, args := #[] }) w1 := by
        have he : (a1.put (some d) ((SV.fn (.func h) [] cs).den ℓ1)).eval (.tmp d) = .func (.func h) #[] (SV.denL ℓ1 cs).toArray := by rw [← hden]; exact hev.2
        simp only [execOp, h2o, resolve, he, Deferred.ofValue, Sem.run_bind]
        simp [Sem.run_pure]
      refine ⟨fun _ _ => trivial, ?_⟩
      rw [show (fen none).round = none from rfl, Oper.semAt_none, hres, Oper.uponIn_defer, h2d]
      have hI3 := hI2.deferred (d := { target := .fn (.func h) (SV.denL ℓ1 cs).toArray, args := #[] }) ⟨_, _, rfl⟩
      show Exit.then _ _ .normal _ _
      refine wpIn_mono (vcC_sound (c := { c with base := [{ target := .fn (.func h) (SV.denL ℓ1 cs).toArray, args := #[] }] }) rfl hm' hT (fun i hi => by cases hi) hD B hdrB cuts _ ℓ1 env2 S1 _ w1 hI3 hB) ?_
      have hret : ∀ ℓ' env' S' a' w' r, Inv { c with base := [{ target := .fn (.func h) (SV.denL ℓ1 cs).toArray, args := #[] }] } ℓ' [] [] env' S' a' w' → resOf tt S'.own env' fn.results.toList = some r → AtRet m (.ret r) S' R → LeavesInM (fen none) 0 P fn a'.tmps (CallPost J ℓ S w R) a'.defers .returning w' := by
        intro ℓ' env' S' a' w' r hI' hr hk2
        refine leaves_marksB (by simp) _ _ _ ?_ hI'.defers (fun w2 hs => ?_)
        · intro d' hd'
          simp only [List.mem_singleton] at hd'
          subst hd'
          refine ⟨rfl, _, _, h, (SV.denL ℓ1 cs).toArray, rfl, fun w => ?_, fun w => hq _ w (by simp [SV.denL_length, hk])⟩
          simp only [invoke]
          simpa using hcallh _ w
        · have hI2' := hI'.shut hs
          have hres := resOf_sound (P := P) hT (fn := fn) hI2' hr
          exact ⟨_, hres.2, at_end (c := c) rfl rfl rfl hm' hI2' (fun b hb => hb.1) hk2⟩
      intro e a' w' hq2
      cases e with
      | normal =>
        obtain ⟨ℓ', env', S', hI', hk2⟩ := hq2
        simp only [vcEndQ, vcEnd] at hk2
        split at hk2
        · rename_i r hr
          exact hret _ _ _ _ _ _ hI' hr hk2
        · exact hk2.elim
      | ret =>
        obtain ⟨ℓ', env', S', hI', hk2⟩ := hq2
        simp only [vcEndQ, vcEnd] at hk2
        split at hk2
        · rename_i r hr
          exact hret _ _ _ _ _ _ hI' hr hk2
        · exact hk2.elim
      | exit id =>
        obtain ⟨ℓ', env', S', hI', hk2⟩ := hq2
        exact hk2.elim
      | goto l => exact hq2.elim
      | panic ch =>
        obtain ⟨ℓ', S', v, hI', hv, rfl, hk2⟩ := hq2
        exact hk2.elim
      | outgrown => exact hq2.elim
    | exit id => obtain ⟨ℓ', env', S', hI', hk2⟩ := hq1; exact hk2.elim
    | goto l => exact hq1.elim
    | ret => obtain ⟨ℓ', env', S', hI', hk2⟩ := hq1; exact hk2.elim
    | panic ch => obtain ⟨ℓ', S', v, hI', hv, rfl, hk2⟩ := hq1; exact hk2.elim
    | outgrown => exact hq1.elim
end
end Go.Tr
end

/-! McE -/
section
namespace Go.Proofs.YtogicnodmgdnbaaGreat
open Go.Tr Go
set_option maxRecDepth 100000
set_option linter.unusedSimpArgs false

theorem quietC (xs : Array Value) (w : World) (h : xs.size = 3) : CallsDIn (fen none) 0 Tryz.prog 97 xs .returning w (fun e u' w' => (∃ v, e = .returned v) ∧ u' = .returning ∧ w' = w) := by
  obtain ⟨l⟩ := xs
  match l, h with
  | [p, q, r], _ =>
  refine callsDIn_of_wpSIn Tryz.func97 rfl trivial fun c₀ cs hu => ?_
  apply wpSIn_seq
  apply wpSIn_region
  simp [wpOpsSIn, go_sem, recoverD, hu, Tryz.ntmps97, Exit.thenS, fen]
  refine wpSIn_of_wpIn rfl ?_
  apply wpIn_block
  apply wpIn_seq
  apply wpIn_region
  simp [wpOpsIn, Oper.wpIn, Oper.uponIn, go_sem, Exit.then, Exit.thenS]
  refine wpIn_cond (t := true) (by simp [Act.eval, Array.replicate]) ?_
  simp only [if_true]
  apply wpIn_region
  simp [wpOpsIn, Oper.wpIn, Oper.uponIn, go_sem, Exit.then, Exit.thenS]
  cases c₀
  simp_all [bodyPostS, results, Tryz.results97]
end Go.Proofs.YtogicnodmgdnbaaGreat
end

/-! Gm -/
section
namespace Go.Tr
open Go
set_option maxRecDepth 10000

/-- An entry: what it is, and where its slice lies. -/
abbrev GE (α : Type) : Type := α × Option Addr × Nat
/-- Without places. -/
def er {κ α : Type} (g : List (κ × GE α)) : List (κ × α) := g.map fun p => (p.1, p.2.1)

theorem mget_er {κ α : Type} [DecidableEq κ] (k : κ) : ∀ g : List (κ × GE α), mget (er g) k = (mget g k).map (·.1)
  | [] => rfl
  | (k', v) :: r => by
    have ih := mget_er k r
    simp only [er] at ih
    simp only [er, List.map_cons, mget]
    split
    · rfl
    · exact ih
theorem er_mput {κ α : Type} [DecidableEq κ] (k : κ) (v : GE α) : ∀ g : List (κ × GE α), er (mput k v g) = mput k v.1 (er g)
  | [] => rfl
  | (k', u) :: r => by
    have ih := er_mput k v r
    simp only [er] at ih
    simp only [er, List.map_cons, mput]
    split
    · rfl
    · simp only [List.map_cons, ih]

/-- What reads as a slice. -/
abbrev slR (k : Nat) (ds : List D) (a : Option Addr) (c : Nat) : Value × D := (.slice a ds.length c, .sl k ds)

/-- All slices of the entries of a map. -/
def agV {κ α : Type} (_k : Nat) (p : α → List D) (g : List (κ × GE α)) : Value := .agg (g.map fun x => Value.slice x.2.2.1 (p x.2.1).length x.2.2.2).toArray
def agD {κ α : Type} (k : Nat) (p : α → List D) (g : List (κ × GE α)) : D := .agg (g.map fun x => .sl k (p x.2.1))

def AllR {κ α : Type} (J : Nat → Prop) (w : World) (k : Nat) (p : α → List D) (g : List (κ × GE α)) : Prop := ∀ x ∈ g, RepC J w (.sl k (p x.2.1)) [.slice x.2.2.1 (p x.2.1).length x.2.2.2]

theorem ag_iff {κ α : Type} {J : Nat → Prop} {w : World} (k : Nat) (p : α → List D) : ∀ (g : List (κ × GE α)), Rep J w (agV k p g) (agD k p g) ↔ AllR J w k p g := by
  have key : ∀ (g : List (κ × GE α)), RepA J w (g.map fun x => D.sl k (p x.2.1)) (g.map fun x => Value.slice x.2.2.1 (p x.2.1).length x.2.2.2) ↔ AllR J w k p g := by
    intro g
    induction g with
    | nil => simp [RepA, AllR]
    | cons x g ih =>
      simp only [List.map_cons, RepA]
      constructor
      · rintro ⟨u, v, h1, h2, h3⟩
        have hu : ∃ c, u = [c] := by
          simp only [RepC] at h2
          obtain ⟨a, cap, e, _⟩ := h2
          exact ⟨_, e⟩
        obtain ⟨c, rfl⟩ := hu
        simp only [List.singleton_append, List.cons.injEq] at h1
        obtain ⟨rfl, rfl⟩ := h1
        intro y hy
        rcases List.mem_cons.1 hy with rfl | hy
        · exact h2
        · exact ih.1 h3 y hy
      · intro h
        exact ⟨[_], _, rfl, h x (List.mem_cons_self ..), ih.2 (fun y hy => h y (List.mem_cons_of_mem _ hy))⟩
  intro g
  simp only [agV, agD, Rep]
  constructor
  · rintro ⟨cs, h1, h2⟩
    simp only [Value.agg.injEq] at h1
    subst h1
    exact (key g).1 h2
  · intro h
    exact ⟨_, rfl, (key g).2 h⟩

theorem AllR.get {κ α : Type} [DecidableEq κ] {J : Nat → Prop} {w : World} {k : Nat} {p : α → List D} {n : κ} {v : GE α} : ∀ {g : List (κ × GE α)}, AllR J w k p g → mget g n = some v → RepC J w (.sl k (p v.1)) [.slice v.2.1 (p v.1).length v.2.2]
  | [], _, h => by cases h
  | (k', u) :: r, hA, h => by
    simp only [mget] at h
    split at h
    · simp only [Option.some.injEq] at h; subst h; exact hA _ (List.mem_cons_self ..)
    · exact AllR.get (g := r) (fun y hy => hA y (List.mem_cons_of_mem _ hy)) h

theorem AllR.put {κ α : Type} [DecidableEq κ] {J : Nat → Prop} {w : World} {k : Nat} {p : α → List D} {n : κ} {v : GE α} (hv : RepC J w (.sl k (p v.1)) [.slice v.2.1 (p v.1).length v.2.2]) : ∀ {g : List (κ × GE α)}, AllR J w k p g → AllR J w k p (mput n v g)
  | [], _ => by
    intro x hx
    simp only [mput, List.mem_singleton] at hx
    subst hx; exact hv
  | (k', u) :: r, hA => by
    have hr : AllR J w k p r := fun y hy => hA y (List.mem_cons_of_mem _ hy)
    simp only [mput]
    split
    · intro x hx
      rcases List.mem_cons.1 hx with rfl | hx
      · exact hv
      · exact hr x hx
    · intro x hx
      rcases List.mem_cons.1 hx with rfl | hx
      · exact hA _ (List.mem_cons_self ..)
      · exact AllR.put hv hr x hx

/-- A map is made; nothing is known of no entries. -/
theorem at_makeMapG {P : Program} {t : TypeId} (q : IntKind) {α : Type} (f : GE α → Value) (k : Nat) (p : α → List D) {S : St} {K : SV → St → Prop} (h : forceL (S.own ++ [.obj (mapO q (encM f []))]) (fun own => putOwn S own (fun S' => addReps S' [(agV k p ([] : List (Int × GE α)), agD k p ([] : List (Int × GE α)))] (fun S'' => K (.mp S.own.length) S'')))) : AtSem P (fun ℓ => Instr.makeMap t (denO ℓ none)) S K := by
  rw [forceL_eq, putOwn_eq, addReps_eq] at h
  constructor
  intro J ℓ w hG hJ
  obtain ⟨r, ℓ', S', w', a1, a2, a3, a4, a5, a6, a7⟩ := (at_makeMap (P := P) (t := t) (S := S) (K := fun v S' => v = .mp S.own.length ∧ S' = ⟨S.own ++ [.obj (mapO q [])], S.accs, S.reps⟩) q (by rw [forceL_eq, putOwn_eq]; exact ⟨rfl, rfl⟩)).sem J ℓ w hG hJ
  obtain ⟨rfl, rfl⟩ := a7
  have a5' : Good J ℓ' ⟨S.own ++ [.obj (mapO q (encM f ([] : List (Int × GE α))))], S.accs, S.reps⟩ w' := a5
  exact ⟨_, ℓ', ⟨S.own ++ [.obj (mapO q (encM f ([] : List (Int × GE α))))], S.accs, S.reps ++ [(agV k p ([] : List (Int × GE α)), agD k p ([] : List (Int × GE α)))]⟩, w', a1, a2, a3, a4, a5'.reps_add _ (by
    intro x hx
    simp only [List.mem_singleton] at hx
    subst hx
    exact (ag_iff (κ := Int) k p []).2 (by intro x hx; cases hx)), a6, h⟩

/-- m[n]: what is found, and what is known of its slice. -/
theorem at_lookupGE {P : Program} {tt : Tab} (hT : TTOK P tt) {α : Type} (f : GE α → Value) (mk : α → Option Addr → Nat → SV) (k : Nat) (p : α → List D) (z : α) (zv : Value) (j : Nat) {t ki e : TypeId} {q : IntKind} {x ix : SV} {S : St} {K : SV → St → Prop} {i : Nat} {n : Int} {g : List (Int × GE α)} {ok : Bool} (ht : tt t = some (.map ki e)) (hk : P.underlying ki = some (.int q)) (hz : ∀ w, (zeroValue e).run P w = .ok zv w)
    (hzf : zv = f (z, none, 0)) (hp : p z = []) (hmk : ∀ v a c ℓ, (mk v a c).den ℓ = f (v, a, c)) (hwf : ∀ v a c m, (mk v a c).wf m = true)
    (hx : x = .mp i) (hi : nth S.own i = some (.obj (mapO q (encM f g)))) (hix : ix = .v (.int q n)) (hj : nth S.reps j = some (agV k p g, agD k p g))
    (h : ∀ a c, addReps S [slR k (p ((mget (er g) n).getD z)) a c] (fun S' => K (match ok with
      | true => .tup [mk ((mget (er g) n).getD z) a c, .v (.bool (mget (er g) n).isSome)]
      | false => mk ((mget (er g) n).getD z) a c) S')) : AtSem P (fun ℓ => Instr.lookup t (x.den ℓ) (ix.den ℓ) ok) S K := by
  simp only [addReps_eq] at h
  constructor
  intro J ℓ w hG hJ
  have hrep := hG.reps _ (nth_mem (j := j) hj)
  rw [ag_iff] at hrep
  obtain ⟨r, ℓ', S', w', a1, a2, a3, a4, a5, a6, a7⟩ := (at_lookup hT (P := P) (S := S) (ok := ok) (K := fun v S' => S' = S ∧ ∀ ℓ, v.den ℓ = (match ok with
      | true => SV.tup [mk ((mget (er g) n).getD z) (((mget g n).map (fun u : GE α => u.2.1)).getD none) (((mget g n).map (fun u : GE α => u.2.2)).getD 0), .v (.bool (mget (er g) n).isSome)]
      | false => mk ((mget (er g) n).getD z) (((mget g n).map (fun u : GE α => u.2.1)).getD none) (((mget g n).map (fun u : GE α => u.2.2)).getD 0)).den ℓ) (l := encM f g) (n := n) (i := i) zv ht hk hz hx hi hix (by
    intro v hv
    rw [lookM_enc, Option.map_eq_some_iff] at hv
    obtain ⟨u, hu, rfl⟩ := hv
    refine ⟨rfl, fun ℓ => ?_⟩
    rw [mget_er, hu]
    cases ok <;> simp [SV.den, SV.denL, hmk]) (by
    intro hv
    rw [lookM_enc, Option.map_eq_none_iff] at hv
    refine ⟨rfl, fun ℓ => ?_⟩
    rw [mget_er, hv]
    cases ok <;> simp [SV.den, SV.denL, hmk, hzf])).sem J ℓ w hG hJ
  obtain ⟨rfl, hden⟩ := a7
  refine ⟨_, ℓ', _, w', a1.trans (congrArg (fun x => Result.ok x w') (hden ℓ')), ?_, a3, a4, a5.reps_add _ ?_, a6, h (((mget g n).map (fun u : GE α => u.2.1)).getD none) (((mget g n).map (fun u : GE α => u.2.2)).getD 0)⟩
  · cases ok <;> simp [SV.wf, SV.wfL, hwf]
  · intro y hy
    simp only [List.mem_singleton] at hy
    subst hy
    have hrep' := a5.reps _ (nth_mem (j := j) hj)
    rw [ag_iff] at hrep'
    rw [mget_er]
    cases hg : mget g n with
    | none =>
      simp only [Option.map_none, Option.getD_none, Rep, RepC, hp]
      exact ⟨none, 0, rfl, by simp, by simp⟩
    | some u =>
      simp only [Option.map_some, Option.getD_some, Rep]
      exact hrep'.get hg

/-- m[n] = x. -/
theorem at_mapPutGE {P : Program} {tt : Tab} (hT : TTOK P tt) {α : Type} (f : GE α → Value) (k : Nat) (p : α → List D) (v : α) (a : Option Addr) (c : Nat) (j j2 : Nat) {t ki e : TypeId} {q : IntKind} {x ix y : SV} {S : St} {K : SV → St → Prop} {i : Nat} {n : Int} {g : List (Int × GE α)} {ds : List D} (ht : tt t = some (.map ki e)) (hk : P.underlying ki = some (.int q))
    (hx : x = .mp i) (hi : nth S.own i = some (.obj (mapO q (encM f g)))) (hix : ix = .v (.int q n)) (hy : ∀ ℓ, y.den ℓ = f (v, a, c)) (hj : nth S.reps j = some (agV k p g, agD k p g)) (hds : p v = ds) (hj2 : nth S.reps j2 = some (.slice a ds.length c, .sl k ds))
    (h : forceL (setNth S.own i (.obj (mapO q (encM f (mput n (v, a, c) g))))) (fun own => forceL (setNth S.reps j (agV k p (mput n (v, a, c) g), agD k p (mput n (v, a, c) g))) (fun reps => K undefS ⟨own, S.accs, reps⟩))) : AtSem P (fun ℓ => do Instr.mapUpdate t (x.den ℓ) (ix.den ℓ) (y.den ℓ); pure undef) S K := by
  simp only [forceL_eq] at h
  subst hds
  constructor
  intro J ℓ w hG hJ
  obtain ⟨r, ℓ', S', w', a1, a2, a3, a4, a5, a6, a7⟩ := (at_mapPut hT (P := P) (S := S) (K := fun r S' => r = undefS ∧ S' = ⟨setNth S.own i (.obj (mapO q (encM f (mput n (v, a, c) g)))), S.accs, S.reps⟩) (l := encM f g) (n := n) (i := i) (f (v, a, c)) ht hk hx hi hix hy (by
    rw [forceL_eq, putOwn_eq, putAt_enc]; exact ⟨rfl, rfl⟩)).sem J ℓ w hG hJ
  obtain ⟨rfl, rfl⟩ := a7
  have hrep := a5.reps _ (nth_mem (j := j) hj)
  rw [ag_iff] at hrep
  have hrv := a5.reps _ (nth_mem (j := j2) hj2)
  simp only [Rep] at hrv
  refine ⟨_, ℓ', ⟨setNth S.own i (.obj (mapO q (encM f (mput n (v, a, c) g)))), S.accs, setNth S.reps j (agV k p (mput n (v, a, c) g), agD k p (mput n (v, a, c) g))⟩, w', a1, a2, a3, a4, ⟨a5.len, a5.nodup, a5.lt, a5.memJ, a5.wf, a5.own, a5.accs, ?_⟩, a6, h⟩
  intro y hy
  rcases List.mem_or_eq_of_mem_set hy with h1 | h1
  · exact a5.reps y h1
  · subst h1
    exact (ag_iff k p _).2 (AllR.put hrv hrep)

/-- A call that only reads may read what grows. -/
theorem Pure.atB {P : Program} {cl : Cal} {args : List SV} {rs : List (Value × D)} {R : SV → List (Value × D) → Prop} {S : St} {K : Out → St → Prop} (h : Pure P cl args rs R) (sel : List RSel) (hrs : selReps S sel = some rs) (hargs : SV.wfL 0 args = true) (hcl : cl.wf 0 = true)
    (k : ∀ r out, R r out → out = [] ∧ K (.ret r) S) : Meets P cl args S K := by
  intro J ℓ w hG hJ
  have hG0 : Good J [] ⟨[], [], rs⟩ w := by
    refine ⟨rfl, by simp [mutS, mutL], by simp [mutS, mutL], by simp [mutS, mutL], by simp, by simp, by simp, ?_⟩
    have hx : ∀ x, x < w.heap.size → Jx J (mutS ℓ S) x → Jx J (mutS [] ⟨[], [], rs⟩) x ∧ w.heap[x]? = w.heap[x]? := fun x _ hj => ⟨⟨hj.1, by simp [mutS, mutL]⟩, rfl⟩
    intro p hp
    rcases selReps_mem hrs p hp with h1 | ⟨j, a, hj, haj, rfl⟩ | ⟨k, rfl⟩
    · exact (hG.reps p h1).map hx
    · have hok := hG.accs a (List.mem_of_getElem? haj)
      simp only [Rep, RepC]
      rcases hok with ⟨hv, hd⟩ | ⟨b, cp, cc, hv, hgb, hcs, hl, hre⟩
      · rw [hv, hd]
        exact ⟨none, 0, rfl, ⟨Nat.le_refl _, Nat.zero_le _⟩, .inl rfl⟩
      · rw [hv]
        have hba : b ∈ accBlk a.v := by simp [hv, accBlk]
        have hbm : b ∈ S.accs.flatMap (fun a => accBlk a.v) := List.mem_flatMap.2 ⟨a, List.mem_of_getElem? haj, hba⟩
        refine ⟨_, cp, rfl, hl, .inr ⟨b, 0, cc, a.T, (0, 0), rfl, ⟨hG.memJ b (by simp only [mutS]; exact List.mem_append.2 (.inr hbm)), by simp [mutS, mutL]⟩, hgb, ?_⟩⟩
        simpa using RepE.map hx a.k _ _ hre
    · exact ⟨none, 0, rfl, ⟨Nat.zero_le _, Nat.zero_le _⟩, .inl rfl⟩
  obtain ⟨nx, h1, h2⟩ := h _ [] w hG0 hJ
  refine ⟨nx, by rw [cal_sem_nil ℓ [] args cl hargs hcl]; exact h1, h2.mono ?_⟩
  rintro e w' ⟨ℓ', o, S', he, hwf, _, hx, hG', hf, r, out, rfl, rfl, hr0, hR⟩
  obtain ⟨rfl, hK⟩ := k r out hR
  have hx0 : Ext [] w w' := by simpa [mutS, mutL] using hx
  have hℓ' : ℓ' = [] := by have := hG'.len; simpa using this
  subst hℓ'
  refine ⟨ℓ, .ret r, S, ?_, SV.wf_mono (Nat.zero_le _) r hr0, List.prefix_refl _, hx0.mono (by simp), ?_, fun b hb => .inl hb, hK⟩
  · rw [he]; simp only [Out.ending]; rw [SV.den_congr (n := 0) (ℓ := ℓ) (ℓ' := []) (fun i hi => by omega) r hr0]
  · exact hG.beside hx0.size (fun b hb => hx0.block b hb (by simp))

end Go.Tr
end

/-! Reverse -/
section
namespace Go.Proofs.YtogicnodmgdnbaaGreat
open Go.Tr Go
set_option maxRecDepth 10000
set_option linter.unusedVariables false

end Go.Proofs.YtogicnodmgdnbaaGreat
end
