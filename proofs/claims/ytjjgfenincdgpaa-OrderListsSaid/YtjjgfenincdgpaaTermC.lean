/- The contracts of term.numbers' visitor, of maps.Keys' iterator and slices.Collect over it (at ints). Conditions stand in each. -/
import Derived.Test.YtjjgfenincdgpaaTermB
namespace Go.Proofs.Ytjjgfenincdgpaa
open Go.Tr Go
set_option maxRecDepth 10000

theorem nodup_bound : ∀ (n : Nat) (l : List Nat), l.Nodup → (∀ m ∈ l, m < n) → l.length ≤ n
  | 0, l, _, h => by
    cases l with
    | nil => simp
    | cons a l => have := h a (by simp); omega
  | n + 1, l, hn, h => by
    by_cases hm : n ∈ l
    · have h1 := nodup_bound n (l.erase n) (hn.erase n) (fun m hm' => by
        have := (hn.mem_erase_iff.1 hm')
        have := h m this.2
        omega)
      rw [List.length_erase_of_mem hm] at h1
      omega
    · have h1 := nodup_bound n l hn (fun m hm' => by
        have h2 := h m hm'
        have h3 : m ≠ n := fun e => hm (e ▸ hm')
        omega)
      omega

theorem int_under : Try.prog.underlying 3 = some (.int .i64) := Try.underlying3

/-- What a node adds to the numbers that were found. -/
def noteStep (f : Tm → Int → Int × Bool) (l : List (Int × Value)) (t : Tm) (b : Int) : List (Int × Value) :=
  if t.op = 4 ∧ (f t b).2 = true then putAt (f t b).1 (.bool true) l else l

/-- The function that numbers asks of each node, by what it answers. -/
def AsksOK (OF : SV) (f : Tm → Int → Int × Bool) : Prop :=
  ∀ t b a c, 0 ≤ b → b ≤ 1000000 → Pure Try.prog (.val OF) [tmS t a c, iS b] [tmR t a c] (fun r out => r = .tup [iS (f t b).1, bS (f t b).2] ∧ out = [])

theorem numbers1_spec (OF : SV) (hOF : OF.wf 0 = true) (f : Tm → Int → Int × Bool) (hf : AsksOK OF f) (t : Tm) (a : Option Addr) (c : Nat) (b : Int) (hb : 0 ≤ b) (hb1 : b ≤ 1000000) (l : List (Int × Value)) :
    Meets Try.prog (.val (.fn (.func 65) [] [.loc 0 0, .loc 2 0])) [tmS t a c, iS b] ⟨[.cells 87 [OF], .obj (mapO .i64 l), .cells 95 [.mp 1]], [], [tmR t a c]⟩
      (fun o S' => o = .ret (.tup []) ∧ S' = ⟨[.cells 87 [OF], .obj (mapO .i64 (noteStep f l t b)), .cells 95 [.mp 1]], [], []⟩) := by
  refine spec_of_body (N := 21) (m := 3) (dt := fun _ => none) [] ttOK Try.func65 rfl Try.call65 Try.ntmps65 rfl (by simp [SV.wfL, SV.wf]) rfl mixed (by kernel_rfl) ?_
  refine AtIf.mk (fun h => ?_) (fun h => ?_)
  · simp only [beq_iff_eq] at h
    refine (hf t b a c hb hb1).at (by simp) rfl hOF ?_
    rintro r out ⟨rfl, rfl⟩
    refine AtIf.mk (fun h2 => ?_) (fun h2 => ?_)
    · refine at_mapPut ttOK (.bool true) rfl int_under rfl rfl rfl (fun _ => rfl) ?_
      refine ret_own [.cells 87 [OF], .obj (mapO .i64 (putAt (f t b).1 (.bool true) l)), .cells 95 [.mp 1]] rfl rfl rfl ?_ rfl ⟨rfl, ?_⟩
      · simp [wfB, Blk.wf, SV.wfL, SV.wf, SV.wf_mono (Nat.zero_le _) OF hOF, mapO]; rfl
      · rw [noteStep, if_pos ⟨h, h2⟩]
    · refine ret_own [.cells 87 [OF], .obj (mapO .i64 l), .cells 95 [.mp 1]] rfl rfl rfl ?_ rfl ⟨rfl, ?_⟩
      · simp [wfB, Blk.wf, SV.wfL, SV.wf, SV.wf_mono (Nat.zero_le _) OF hOF, mapO]; rfl
      · rw [noteStep, if_neg (fun hh => by rw [h2] at hh; cases hh.2)]
  · simp only [beq_eq_false_iff_ne] at h
    refine ret_own [.cells 87 [OF], .obj (mapO .i64 l), .cells 95 [.mp 1]] rfl rfl rfl ?_ rfl ⟨rfl, ?_⟩
    · simp [wfB, Blk.wf, SV.wfL, SV.wf, SV.wf_mono (Nat.zero_le _) OF hOF, mapO]; rfl
    · rw [noteStep, if_neg (fun hh => h hh.1)]

/-- What Free asks of a node. -/
def freeOf (t : Tm) (b : Int) : Int × Bool := (IntKind.i64.wrap (t.n - b), t.hd == 1 && decide (b ≤ t.n))

theorem free1_spec : AsksOK (.fn (.func 54) [] []) freeOf := by
  intro t b a c _ _
  refine spec_of_body (N := 19) (m := 0) (dt := drawsOf [(1, .leaf [0, 1, 2, 3, 4, 5, 6, 7, 8, 9, 10, 11, 12, 13, 14], [])]) [] ttOK Try.func54 rfl Try.call54 Try.ntmps54 rfl rfl rfl mixed (by kernel_rfl) ?_
  refine AtRet.pure [] rfl (by simp) ⟨rfl, rfl⟩

/-- A function that is asked for each key, from left to right: the keys so far are told by its state. -/
structure AsksKey (n0 : Nat) (Y : SV) {σ : Type} (m0 m1 : Blk) (B2 B3 : σ → Blk) (A : σ → List Acc) (kof : σ → List Int) (L : Nat) : Prop where
  wf : Y.wf n0 = true
  does : ∀ s k, (kof s).length < L → Meets Try.prog (.val Y) [iS k] ⟨[m0, m1, B2 s, B3 s], A s, []⟩ (fun o S' => o = .ret (bS true) ∧ ∃ s', kof s' = kof s ++ [k] ∧ S' = ⟨[m0, m1, B2 s', B3 s'], A s', []⟩)

theorem keys1_spec (l : List (Int × Value)) {σ : Type} (Y : SV) (B2 B3 : σ → Blk) (A : σ → List Acc) (kof : σ → List Int) (hY : AsksKey 4 Y (.obj (mapO .i64 l)) (.cells 95 [.mp 0]) B2 B3 A kof l.length)
    (hB : ∀ s s', (B2 s).mut = (B2 s').mut ∧ (B3 s).mut = (B3 s').mut) (hwf : ∀ s, (B2 s).wf 4 = true ∧ (B3 s).wf 4 = true) (s0 : σ) (h0 : kof s0 = []) :
    Meets Try.prog (.val (.fn (.func 72) [] [.loc 1 0])) [Y] ⟨[.obj (mapO .i64 l), .cells 95 [.mp 0], B2 s0, B3 s0], A s0, []⟩
      (fun o S' => o = .ret (.tup []) ∧ ∃ s, (kof s).Perm (l.map (·.1)) ∧ S' = ⟨[.obj (mapO .i64 l), .cells 95 [.mp 0], B2 s, B3 s], A s, []⟩) := by
  refine spec_of_body (N := 14) (m := 4) (dt := fun _ => none) [] ttOK Try.func72 rfl Try.call72 Try.ntmps72 rfl (by simp [SV.wfL, SV.wf, hY.wf]) rfl mixed (by kernel_rfl) ?_
  refine at_range ttOK rfl rfl rfl ?_
  have hlt : ∀ (seen : Array Nat), seen.toList.Nodup → (∀ m ∈ seen.toList, m < l.length) → seen.size ≤ l.length := fun seen h1 h2 => by
    simpa using nodup_bound l.length seen.toList h1 h2
  refine AtLoop.mk ⟨σ × Array Nat, fun _ => [(5, .loc 4 0), (0, Y)], fun x => ⟨[.obj (mapO .i64 l), .cells 95 [.mp 0], B2 x.1, B3 x.1, .iter 0 l.length x.2 l.length], A x.1, []⟩,
    fun x => kof x.1 = x.2.toList.map (fun m => ((l[m]?).map (·.1)).getD 0) ∧ x.2.toList.Nodup ∧ ∀ m ∈ x.2.toList, m < l.length, fun x => l.length - x.2.size, (s0, #[]), ⟨by simp [h0], by simp, by simp⟩, ⟨rfl, rfl, trivial⟩, StLe.refl _, ?_, ?_⟩
  · intro x _
    refine ⟨?_, rfl⟩
    simp [envWf, SV.wf, SV.wf_mono (show 4 ≤ 5 by omega) Y hY.wf]
    rfl
  rintro ⟨s, seen⟩ ⟨hk, hnd, hsm⟩
  simp only at hk hnd hsm ⊢
  refine at_next rfl rfl rfl ?_ ?_
  · intro hall
    refine AtIf.mk (fun h => by cases h) (fun _ => ?_)
    refine ret_keep [.obj (mapO .i64 l), .cells 95 [.mp 0], B2 s, B3 s] rfl rfl rfl ?_ rfl ⟨rfl, s, ?_, rfl⟩
    · have := hwf s
      simp only [wfB, List.length_cons, List.length_nil, this.1, this.2]
      rfl
    · rw [hk]
      have hp : seen.toList.Perm (List.range l.length) := by
        refine (List.perm_ext_iff_of_nodup hnd List.nodup_range).2 (fun m => ?_)
        rw [List.mem_range]
        exact ⟨hsm m, fun hm => by simpa using hall m hm⟩
      refine (hp.map _).trans (List.Perm.of_eq ?_)
      apply List.ext_getElem?
      intro m
      simp only [List.getElem?_map]
      rcases Nat.lt_or_ge m l.length with h | h
      · simp [h]
      · simp [Nat.not_lt.2 h]
  · intro m p hp hns
    refine AtIf.mk (fun _ => ?_) (fun h => by cases h)
    refine at_entry rfl rfl rfl hp ?_
    have hmlt : m < l.length := (List.getElem?_eq_some_iff.1 hp).1
    have hsz : (seen.push m).size ≤ l.length := hlt (seen.push m) (by simp [List.nodup_append, hnd]; intro a ha e; subst e; exact hns (by simpa using ha)) (by simp; rintro a (ha | ha); exact hsm a (by simpa using ha); omega)
    have hs := hY.does s p.1 (by rw [hk]; simp at hsz ⊢; omega)
    have hw := hwf s
    refine hs.frame0 [.iter 0 l.length (seen.push m) l.length] [] rfl (by simp) ?_ (by simp) rfl hY.wf ?_
    · intro q hq
      simp only [List.mem_cons, List.not_mem_nil, or_false] at hq
      rcases hq with rfl | rfl | rfl | rfl
      · rfl
      · rfl
      · exact hw.1
      · exact hw.2
    rintro o s' ⟨rfl, s2, hk2, rfl⟩
    refine ⟨by simp [hB s s2], ?_⟩
    refine AtIf.mk (fun h => by cases h) (fun _ => ?_)
    refine ⟨(s2, seen.push m), ⟨?_, ?_, ?_⟩, ?_, ⟨rfl, rfl, trivial⟩, ?_⟩
    · simp [hk2, hk, hp]
    · simp [List.nodup_append, hnd]; intro a ha e; subst e; exact hns (by simpa using ha)
    · simp; rintro a (ha | ha); exact hsm a (by simpa using ha); omega
    · simp at hsz ⊢; omega
    · simp only [List.append_nil]
      exact StLe.refl _

/-- What slices.AppendSeq has collected. -/
abbrev seqB2 (x : List Int × Value) : Blk := .cells 50 [.v x.2]
abbrev seqA (x : List Int × Value) : List Acc := [⟨x.2, 1, 3, x.1.map (D.int .i64)⟩]

theorem appendSeq_spec (l : List (Int × Value)) (hL : l.length ≤ 1000000) :
    Meets Try.prog (fnS 74) [.v (.slice none 0 0), .fn (.func 72) [] [.loc 1 0]] ⟨[.obj (mapO .i64 l), .cells 95 [.mp 0]], [⟨.slice none 0 0, 1, 3, []⟩], []⟩
      (fun o S' => ∃ (ks : List Int) (v : Value), ks.Perm (l.map (·.1)) ∧ o = .ret (.v v) ∧ S' = ⟨[.obj (mapO .i64 l), .cells 95 [.mp 0]], [⟨v, 1, 3, ks.map (D.int .i64)⟩], []⟩) := by
  refine spec_of_body (N := 13) (m := 2) (dt := fun _ => none) [] ttOK Try.func74 rfl Try.call74 Try.ntmps74 rfl rfl rfl mixed (by kernel_rfl) ?_
  refine AtRange.mk ⟨[(2, .loc 2 0)], ⟨rfl, trivial⟩, rfl, rfl, ⟨_, _, _, rfl, Try.call72⟩, ?_⟩
  refine (keys1_spec l (.yld 3) seqB2 (fun _ => _) seqA (·.1) ⟨rfl, ?_⟩ (fun _ _ => ⟨rfl, rfl⟩) (fun _ => ⟨rfl, rfl⟩) ([], .slice none 0 0) rfl).mono ?_
  · rintro ⟨ks, v⟩ k hlt
    simp only at hlt
    refine spec_of_round (N := 13) (m := 4) (dt := fun _ => none) [] ttOK rfl rfl rfl rfl rfl rfl mixed (by kernel_rfl) (by kernel_rfl) ?_
    refine at_build ttOK 8 [.int .i64 k] rfl (by kernel_rfl) ⟨⟨rfl, rfl, rfl, rfl⟩, trivial⟩ rfl (by decide) (by decide) ?_
    intro a
    refine at_append ttOK 8 0 0 rfl (by kernel_rfl) rfl rfl rfl rfl (by simp; omega) (by simp; omega) ?_
    intro a' c'
    refine ret_keep [.obj (mapO .i64 l), .cells 95 [.mp 0], seqB2 (ks ++ [k], .slice a' ((ks.map (D.int .i64)).length + 1) c'), _] rfl rfl rfl rfl rfl ⟨rfl, (ks ++ [k], .slice a' ((ks.map (D.int .i64)).length + 1) c'), rfl, ?_⟩
    simp [stOf]
  · rintro o S' ⟨rfl, ⟨ks, v⟩, hp, rfl⟩
    refine ⟨⟨_, StLe.of (S' := ⟨[.obj (mapO .i64 l), .cells 95 [.mp 0]], seqA (ks, v), []⟩) rfl (List.Sublist.refl _) (by simp) rfl rfl, Nat.le_refl _, rfl, ks, v, hp, rfl, rfl⟩⟩
end Go.Proofs.Ytjjgfenincdgpaa
