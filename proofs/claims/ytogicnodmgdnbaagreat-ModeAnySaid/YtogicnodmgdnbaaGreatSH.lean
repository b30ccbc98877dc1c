/- Merged texts: Rd1 Gs Gm Gv HandF Ga Gb Reverse. Conditions stand in each rule. -/
import Derived.Test.YtogicnodmgdnbaaGreatSG
import Derived.Laws.MakeOwn
set_option linter.unusedSimpArgs false
set_option linter.unusedVariables false

namespace Go.Proofs.YtogicnodmgdnbaaGreat
section
open Go.Tr Go Go.Proofs.Tryz
open Go.ChangeShapes Go.WideShapes Go.ChangeAt Go.RowKit
set_option maxRecDepth 10000
theorem cz3 : Tryz.prog.cellsOf 3 = 1 := by kernel_rfl
theorem cz9 : Tryz.prog.cellsOf 9 = 1 := by kernel_rfl
theorem cz45 : Tryz.prog.cellsOf 45 = 1 := by kernel_rfl
theorem cz47 : Tryz.prog.cellsOf 47 = 4 := by kernel_rfl
theorem cz49 : Tryz.prog.cellsOf 49 = 6 := by kernel_rfl
section
variable {H : Type} {enc : TypeId × Value → H} {W : World}
theorem repC_Tm {W : World} {t : Tm} {a1 : Option Addr} {c1 : Nat} (r1 : RepC (fun _ => True) W (.sl 4 (Tm.encL t.args)) [.slice a1 (Tm.encL t.args).length c1]) : RepC (fun _ => True) W t.enc [.int .i64 t.op, .int .i64 t.hd, .int .i64 t.n, .slice a1 (Tm.encL t.args).length c1] := by
 rw [Tm.enc_eq]
 exact ⟨[.int .i64 t.op], _, rfl, rfl, [.int .i64 t.hd], _, rfl, rfl, [.int .i64 t.n], _, rfl, rfl, [.slice a1 (Tm.encL t.args).length c1], _, rfl, r1, rfl⟩
theorem bz47 : 1 ≤ Tryz.prog.bytesOf 47 := by decide +kernel
theorem rds_Tm (n : Nat) (hel : ∀ m, m < n → ∀ cs x, DataW.trod enc Tryz.prog W 0 (fun _ => true) true m 47 cs = some x → (∀ y ∈ x.1.weights Tryz.prog 47, y ≤ reachBytes) → ∃ t : Tm, RepC (fun _ => True) W t.enc cs)
  {cs : List Value} {x : DataW H × List MemPlace} (h : DataW.trod enc Tryz.prog W 0 (fun _ => true) true n 45 cs = some x) (hw : ∀ y ∈ x.1.weights Tryz.prog 45, y ≤ reachBytes) :
  ∃ (l : List Tm) (a : OA) (c : Nat), cs = [.slice a (Tm.encL l).length c] ∧ RepC (fun _ => True) W (.sl 4 (Tm.encL l)) [.slice a (Tm.encL l).length c] := by
 obtain ⟨l, a, c, e, hr⟩ := qkl Tryz.underlying45 cz47 (by decide) bz47 Tm.enc n hel h hw
 subst e
 exact ⟨l, a, c, by rw [Tm.encL_length], by rw [Tm.encL_eq, List.length_map]; exact hr⟩
theorem rd_Tm : ∀ (n : Nat) (cs : List Value) (x : DataW H × List MemPlace), DataW.trod enc Tryz.prog W 0 (fun _ => true) true n 47 cs = some x → (∀ y ∈ x.1.weights Tryz.prog 47, y ≤ reachBytes) →
  ∃ (t : Tm) (a1 : OA) (c1 : Nat), cs = [.int .i64 t.op, .int .i64 t.hd, .int .i64 t.n, .slice a1 (Tm.encL t.args).length c1] ∧ RepC (fun _ => True) W (.sl 4 (Tm.encL t.args)) [.slice a1 (Tm.encL t.args).length c1] := by
 intro n
 induction n using Nat.strongRecOn with
 | ind n ih =>
 intro cs x h hw
 obtain ⟨xs, m, rfl, rfl, hl, hlen, hf⟩ := DataW.trod_struct Tryz.underlying47 h
 match xs, hlen with
 | [y0, y1, y2, y3], _ =>
 rw [cz47] at hl
 match cs, hl with
 | [v0, v1, v2, v3], _ =>
 have h0 : DataW.trod enc Tryz.prog W 0 (fun _ => true) true m 3 (([v0, v1, v2, v3].drop 0).take (Tryz.prog.cellsOf 3)) = some y0 := hf 0 _ rfl
 have h1 : DataW.trod enc Tryz.prog W 0 (fun _ => true) true m 3 (([v0, v1, v2, v3].drop 1).take (Tryz.prog.cellsOf 3)) = some y1 := hf 1 _ rfl
 have h2 : DataW.trod enc Tryz.prog W 0 (fun _ => true) true m 3 (([v0, v1, v2, v3].drop 2).take (Tryz.prog.cellsOf 3)) = some y2 := hf 2 _ rfl
 have h3 : DataW.trod enc Tryz.prog W 0 (fun _ => true) true m 45 (([v0, v1, v2, v3].drop 3).take (Tryz.prog.cellsOf 45)) = some y3 := hf 3 _ rfl
 simp only [cz3, cz45, List.drop_zero, List.drop_succ_cons, List.take_succ_cons, List.take_zero] at h0 h1 h2 h3
 simp only [DataW.weights, Tryz.underlying47, List.map_cons, List.map_nil, DataW.weightsEach, List.append_nil, List.mem_append] at hw
 obtain ⟨f0, e0, _, _⟩ := DataW.trod_int Tryz.underlying3 h0
 obtain ⟨f1, e1, _, _⟩ := DataW.trod_int Tryz.underlying3 h1
 obtain ⟨f2, e2, _, _⟩ := DataW.trod_int Tryz.underlying3 h2
 obtain ⟨f3, a1, c1, e3, r1⟩ := rds_Tm m (fun m' hm' cs' x' h' hw' => by
  obtain ⟨t, a1, c1, rfl, r1⟩ := ih m' (by omega) cs' x' h' hw'
  exact ⟨t, repC_Tm r1⟩) h3 (fun y hy => hw y (.inr (.inr (.inr hy))))
 simp only [List.cons.injEq, and_true] at e0 e1 e2 e3
 subst e0
 subst e1
 subst e2
 subst e3
 exact ⟨.mk f0 f1 f2 f3, a1, c1, rfl, r1⟩
theorem repC_Dc {W : World} {t : Dc} {a1 : Option Addr} {c1 : Nat} (r1 : RepC (fun _ => True) W (.sl 4 (Tm.encL t.cls.args)) [.slice a1 (Tm.encL t.cls.args).length c1]) : RepC (fun _ => True) W t.enc [.string t.name, .int .i64 t.cls.op, .int .i64 t.cls.hd, .int .i64 t.cls.n, .slice a1 (Tm.encL t.cls.args).length c1, .int .i64 t.implicit] := by
 rw [Dc.enc_eq]
 exact ⟨[.string t.name], _, rfl, rfl, [.int .i64 t.cls.op, .int .i64 t.cls.hd, .int .i64 t.cls.n, .slice a1 (Tm.encL t.cls.args).length c1], _, rfl, ⟨[.int .i64 t.cls.op], _, rfl, rfl, [.int .i64 t.cls.hd], _, rfl, rfl, [.int .i64 t.cls.n], _, rfl, rfl, [.slice a1 (Tm.encL t.cls.args).length c1], _, rfl, r1, rfl⟩, [.int .i64 t.implicit], _, rfl, rfl, rfl⟩
theorem bz49 : 1 ≤ Tryz.prog.bytesOf 49 := by decide +kernel
theorem rds_Dc (n : Nat) (hel : ∀ m, m < n → ∀ cs x, DataW.trod enc Tryz.prog W 0 (fun _ => true) true m 49 cs = some x → (∀ y ∈ x.1.weights Tryz.prog 49, y ≤ reachBytes) → ∃ t : Dc, RepC (fun _ => True) W t.enc cs)
  {cs : List Value} {x : DataW H × List MemPlace} (h : DataW.trod enc Tryz.prog W 0 (fun _ => true) true n 22 cs = some x) (hw : ∀ y ∈ x.1.weights Tryz.prog 22, y ≤ reachBytes) :
  ∃ (l : List Dc) (a : OA) (c : Nat), cs = [.slice a (Dc.encL l).length c] ∧ RepC (fun _ => True) W (.sl 6 (Dc.encL l)) [.slice a (Dc.encL l).length c] := by
 obtain ⟨l, a, c, e, hr⟩ := qkl Tryz.underlying22 cz49 (by decide) bz49 Dc.enc n hel h hw
 subst e
 exact ⟨l, a, c, by rw [Dc.encL_length], by rw [Dc.encL_eq, List.length_map]; exact hr⟩
theorem rd_Dc : ∀ (n : Nat) (cs : List Value) (x : DataW H × List MemPlace), DataW.trod enc Tryz.prog W 0 (fun _ => true) true n 49 cs = some x → (∀ y ∈ x.1.weights Tryz.prog 49, y ≤ reachBytes) →
  ∃ (t : Dc) (a1 : OA) (c1 : Nat), cs = [.string t.name, .int .i64 t.cls.op, .int .i64 t.cls.hd, .int .i64 t.cls.n, .slice a1 (Tm.encL t.cls.args).length c1, .int .i64 t.implicit] ∧ RepC (fun _ => True) W (.sl 4 (Tm.encL t.cls.args)) [.slice a1 (Tm.encL t.cls.args).length c1] := by
 intro n
 intro cs x h hw
 obtain ⟨xs, m, rfl, rfl, hl, hlen, hf⟩ := DataW.trod_struct Tryz.underlying49 h
 match xs, hlen with
 | [y0, y1, y2], _ =>
 rw [cz49] at hl
 match cs, hl with
 | [v0, v1, v2, v3, v4, v5], _ =>
 have h0 : DataW.trod enc Tryz.prog W 0 (fun _ => true) true m 9 (([v0, v1, v2, v3, v4, v5].drop 0).take (Tryz.prog.cellsOf 9)) = some y0 := hf 0 _ rfl
 have h1 : DataW.trod enc Tryz.prog W 0 (fun _ => true) true m 47 (([v0, v1, v2, v3, v4, v5].drop 1).take (Tryz.prog.cellsOf 47)) = some y1 := hf 1 _ rfl
 have h2 : DataW.trod enc Tryz.prog W 0 (fun _ => true) true m 3 (([v0, v1, v2, v3, v4, v5].drop 5).take (Tryz.prog.cellsOf 3)) = some y2 := hf 2 _ rfl
 simp only [cz3, cz47, cz9, List.drop_zero, List.drop_succ_cons, List.take_succ_cons, List.take_zero] at h0 h1 h2
 simp only [DataW.weights, Tryz.underlying49, List.map_cons, List.map_nil, DataW.weightsEach, List.append_nil, List.mem_append] at hw
 obtain ⟨f0, e0, _, _⟩ := DataW.trod_string Tryz.underlying9 h0
 obtain ⟨f1, a1, c1, e1, r1⟩ := rd_Tm m _ _ h1 (fun y hy => hw y (.inr (.inl hy)))
 obtain ⟨f2, e2, _, _⟩ := DataW.trod_int Tryz.underlying3 h2
 simp only [List.cons.injEq, and_true] at e0 e1 e2
 subst e0
 obtain ⟨rfl, rfl, rfl, rfl⟩ := e1
 subst e2
 exact ⟨.mk f0 f1 f2, a1, c1, rfl, r1⟩
theorem rdl_Dc (n : Nat) (cs : List Value) (x : DataW H × List MemPlace) (h : DataW.trod enc Tryz.prog W 0 (fun _ => true) true n 22 cs = some x) (hw : ∀ y ∈ x.1.weights Tryz.prog 22, y ≤ reachBytes) :
  ∃ (l : List Dc) (a : OA) (c : Nat), cs = [.slice a (Dc.encL l).length c] ∧ RepC (fun _ => True) W (.sl 6 (Dc.encL l)) [.slice a (Dc.encL l).length c] :=
 rds_Dc n (fun m' _ cs' x' h' hw' => by
  obtain ⟨t, a1, c1, rfl, r1⟩ := rd_Dc m' cs' x' h' hw'
  exact ⟨t, repC_Dc r1⟩) h hw
theorem argl_Dc {base : Nat} {v : Value} {d : DataW H} {p : List MemPlace} (hok : Value.okWide Tryz.prog W .any base 22 v) (h : DataW.Trod enc Tryz.prog W 0 (fun _ => true) true 22 v d p) (hw : ∀ y ∈ d.weights Tryz.prog 22, y ≤ reachBytes) :
  ∃ (l : List Dc) (a : OA) (c : Nat), v = .slice a (Dc.encL l).length c ∧ Rep (fun _ => True) W (.slice a (Dc.encL l).length c) (.sl 6 (Dc.encL l)) := by
 obtain ⟨a0, l0, c0, rfl⟩ := okWide_slice Tryz.underlying22 hok
 obtain ⟨n, hn⟩ := h
 obtain ⟨l, a, c, e, hr⟩ := rdl_Dc n _ _ hn hw
 simp only [Value.cells, List.cons.injEq, and_true] at e
 exact ⟨l, a, c, e, hr⟩
end
end
end Go.Proofs.YtogicnodmgdnbaaGreat

namespace Go.Tr
section
open Go
theorem repE_rep {J : Nat → Prop} {w : World} {d : D} {u : Value} (h : RepC J w d [u]) : ∀ (n : Nat) (cs : List Value), n ≤ cs.length → (∀ i, i < n → cs[i]? = some u) → RepE J w 1 (List.replicate n d) cs
 | 0, cs, _, _ => by simp [RepE]
 | n + 1, [], hn, _ => by simp at hn
 | n + 1, c :: cs, hn, hc => by
  have h0 := hc 0 (by omega)
  simp at h0
  subst h0
  simp only [List.replicate_succ, RepE]
  refine ⟨by simp, by simpa using h, ?_⟩
  simp only [List.drop_succ_cons, List.drop_zero]
  exact repE_rep h n cs (by simpa using hn) (fun i hi => by have := hc (i + 1) (by omega); simpa using this)
theorem qk9 {P : Program} {tt : Tab} (hT : TTOK P tt) {t e : TypeId} {n : Int} {x y : SV} {S : St} {K : SV → St → Prop} {d : D} {u : Value} {ds' : List D} (ht : tt t = some (.slice e 1)) (hel : ∃ i, P.info? e = some i ∧ i.zero = some u ∧ i.size = 1 ∧ i.bytes ≤ 16) (hu : D.one d = some u)
  (hx : x = .v (.int .i64 n)) (hy : y = .v (.int .i64 n)) (hn : 0 ≤ n ∧ n ≤ 1000000) (hds : ds' = List.replicate n.toNat d)
  (h : ∀ a, forceL (⟨.slice a ds'.length n.toNat, 1, e, ds'⟩ :: S.accs) (fun accs => K (.v (.slice a ds'.length n.toNat)) ⟨S.own, accs, S.reps⟩)) : AtSem P (fun ℓ => Instr.makeSlice t (x.den ℓ) (y.den ℓ)) S K := by
 subst hx hy hds
 simp only [qq] at h
 obtain ⟨i, hi1, hi2, hi3, hi4⟩ := hel
 obtain ⟨hu1, hu2⟩ := qho hu
 constructor
 intro J ℓ w hG hJ
 have hrun := run_make (P := P) w t e i u (hT t _ ht).2.1 hi1 hi2 .i64 .i64 n n hn.1 (Int.le_refl _) (by
  have h1 : (i.bytes : Int) ≤ 16 := by omega
  have : (i.bytes : Int) * n ≤ 16 * n := Int.mul_le_mul_of_nonneg_right h1 hn.1
  omega) (by omega)
 rw [hi3, Nat.mul_one] at hrun
 have hcell : u.cells = #[u] := hu2
 generalize hcs : madeCells u.cells n.toNat = flat at hrun
 have hsize : flat.size = n.toNat := by rw [← hcs, size_madeCells]
 have hget : ∀ j, j < n.toNat → flat.toList[j]? = some u := by
  intro j hj
  rw [← hcs, hcell]
  simp [madeCells, hj, Nat.mod_one]
 have hold : ∀ x, x < w.heap.size → (w.alloc (.cells flat e (0, 0))).heap[x]? = w.heap[x]? := fun x hx => by
  show (w.heap.push _)[x]? = _
  rw [Array.getElem?_push, if_neg (by omega)]
 have hG1 : Good J ℓ ⟨S.own, ⟨.slice none 0 0, 1, e, []⟩ :: S.accs, S.reps⟩ w := Good.nilAcc 1 e hG
 have hm1 : mutS ℓ ⟨S.own, ⟨.slice none 0 0, 1, e, []⟩ :: S.accs, S.reps⟩ = mutS ℓ S := by simp [mutS, accBlk]
 have hsz : w.heap.size ≤ (w.alloc (.cells flat e (0, 0))).heap.size := by simp
 obtain ⟨hG2, hf⟩ := hG1.regrow hJ (j := 0) (a := ⟨.slice none 0 0, 1, e, []⟩) (a' := ⟨.slice (some ⟨w.heap.size, 0, none⟩) (List.replicate n.toNat d).length n.toNat, 1, e, List.replicate n.toNat d⟩) rfl hsz (fun b hb _ => hold b hb) (by simp [accBlk]) (by
  intro b hb
  simp only [accBlk, List.mem_singleton] at hb
  subst hb
  exact ⟨.inr (Nat.le_refl _), by simp⟩) (fun J' hj => by
  refine .inr ⟨w.heap.size, n.toNat, flat, rfl, World.alloc_heap_new w _, ?_, ?_, ?_⟩
  ·simpa using hsize
  ·simp only [List.length_replicate]; exact ⟨Nat.le_refl _, by omega⟩
  ·exact repE_rep ((qgb hu _).2 rfl) _ _ (by simp [hsize]) hget)
 refine ⟨.v (.slice (some ⟨w.heap.size, 0, none⟩) (List.replicate n.toNat d).length n.toNat), ℓ, _, w.alloc (.cells flat e (0, 0)), by rw [List.length_replicate]; exact hrun, rfl, List.prefix_refl _, ⟨rfl, rfl, hsz, fun b hb _ => hold b hb⟩, hG2, fun b hb => ?_, h _⟩
 rcases hf b hb with h1 | h1
 ·rw [hm1] at h1; exact .inl h1
 ·exact .inr h1
end

section
open Go
set_option maxRecDepth 10000
abbrev GE (α : Type) : Type := α × Option Addr × Nat
def er {κ α : Type} (g : List (κ × GE α)) : List (κ × α) := g.map fun p => (p.1, p.2.1)
theorem qlk {κ α : Type} [DecidableEq κ] (k : κ) : ∀ g : List (κ × GE α), mget (er g) k = (mget g k).map (·.1)
 | [] => rfl
 | (k', v) :: r => by
  have ih := qlk k r
  simp only [er] at ih
  simp only [er, List.map_cons, mget]
  split
  ·rfl
  ·exact ih
theorem er_mput {κ α : Type} [DecidableEq κ] (k : κ) (v : GE α) : ∀ g : List (κ × GE α), er (mput k v g) = mput k v.1 (er g)
 | [] => rfl
 | (k', u) :: r => by
  have ih := er_mput k v r
  simp only [er] at ih
  simp only [er, List.map_cons, mput]
  split
  ·rfl
  ·simp only [List.map_cons, ih]
abbrev slR (k : Nat) (ds : List D) (a : OA) (c : Nat) : Value × D := (.slice a ds.length c, .sl k ds)
def agV {κ α : Type} (_k : Nat) (p : α → List D) (g : List (κ × GE α)) : Value := .agg (g.map fun x => Value.slice x.2.2.1 (p x.2.1).length x.2.2.2).toArray
def agD {κ α : Type} (k : Nat) (p : α → List D) (g : List (κ × GE α)) : D := .agg (g.map fun x => .sl k (p x.2.1))
def AllR {κ α : Type} (J : Nat → Prop) (w : World) (k : Nat) (p : α → List D) (g : List (κ × GE α)) : Prop := ∀ x ∈ g, RepC J w (.sl k (p x.2.1)) [.slice x.2.2.1 (p x.2.1).length x.2.2.2]
theorem ag_iff {κ α : Type} {J : Nat → Prop} {w : World} (k : Nat) (p : α → List D) : ∀ (g : List (κ × GE α)), Rep J w (agV k p g) (agD k p g) ↔ AllR J w k p g := by
 have key : ∀ (g : List (κ × GE α)), RepA J w (g.map fun x => D.sl k (p x.2.1)) (g.map fun x => Value.slice x.2.2.1 (p x.2.1).length x.2.2.2) ↔ AllR J w k p g := by
  intro g
  induction g with
  | nil => simp [RepA, AllR]
  | cons x g ih =>
   simp only [List.map_cons, RepA]
   constructor
   ·rintro ⟨u, v, h1, h2, h3⟩
    have hu : ∃ c, u = [c] := by
     simp only [RepC] at h2
     obtain ⟨a, cap, e, _⟩ := h2
     exact ⟨_, e⟩
    obtain ⟨c, rfl⟩ := hu
    simp only [List.singleton_append, List.cons.injEq] at h1
    obtain ⟨rfl, rfl⟩ := h1
    intro y hy
    rcases List.mem_cons.1 hy with rfl | hy
    ·exact h2
    ·exact ih.1 h3 y hy
   ·intro h
    exact ⟨[_], _, rfl, h x (List.mem_cons_self ..), ih.2 (fun y hy => h y (List.mem_cons_of_mem _ hy))⟩
 intro g
 simp only [agV, agD, Rep]
 constructor
 ·rintro ⟨cs, h1, h2⟩
  simp only [Value.agg.injEq] at h1
  subst h1
  exact (key g).1 h2
 ·intro h
  exact ⟨_, rfl, (key g).2 h⟩
theorem AllR.get {κ α : Type} [DecidableEq κ] {J : Nat → Prop} {w : World} {k : Nat} {p : α → List D} {n : κ} {v : GE α} : ∀ {g : List (κ × GE α)}, AllR J w k p g → mget g n = some v → RepC J w (.sl k (p v.1)) [.slice v.2.1 (p v.1).length v.2.2]
 | [], _, h => by cases h
 | (k', u) :: r, hA, h => by
  simp only [mget] at h
  split at h
  ·simp only [Option.some.injEq] at h; subst h; exact hA _ (List.mem_cons_self ..)
  ·exact AllR.get (g := r) (fun y hy => hA y (List.mem_cons_of_mem _ hy)) h
theorem AllR.put {κ α : Type} [DecidableEq κ] {J : Nat → Prop} {w : World} {k : Nat} {p : α → List D} {n : κ} {v : GE α} (hv : RepC J w (.sl k (p v.1)) [.slice v.2.1 (p v.1).length v.2.2]) : ∀ {g : List (κ × GE α)}, AllR J w k p g → AllR J w k p (mput n v g)
 | [], _ => by
  intro x hx
  simp only [mput, List.mem_singleton] at hx
  subst hx; exact hv
 | (k', u) :: r, hA => by
  have hr : AllR J w k p r := fun y hy => hA y (List.mem_cons_of_mem _ hy)
  simp only [mput]
  split
  ·intro x hx
   rcases List.mem_cons.1 hx with rfl | hx
   ·exact hv
   ·exact hr x hx
  ·intro x hx
   rcases List.mem_cons.1 hx with rfl | hx
   ·exact hA _ (List.mem_cons_self ..)
   ·exact AllR.put hv hr x hx
theorem qnw {P : Program} {t : TypeId} (q : IntKind) {α : Type} (f : GE α → Value) (k : Nat) (p : α → List D) {S : St} {K : SV → St → Prop} (h : forceL (S.own ++ [.obj (mapO q (encM f []))]) (fun own => putOwn S own (fun S' => addReps S' [(agV k p ([] : List (Int × GE α)), agD k p ([] : List (Int × GE α)))] (fun S'' => K (.mp S.own.length) S'')))) : AtSem P (fun ℓ => Instr.makeMap t (denO ℓ none)) S K := by
 rw [qq, qag, qbc] at h
 constructor
 intro J ℓ w hG hJ
 obtain ⟨r, ℓ', S', w', a1, a2, a3, a4, a5, a6, a7⟩ := (qgv (P := P) (t := t) (S := S) (K := fun v S' => v = .mp S.own.length ∧ S' = ⟨S.own ++ [.obj (mapO q [])], S.accs, S.reps⟩) q (by rw [qq, qag]; exact ⟨rfl, rfl⟩)).sem J ℓ w hG hJ
 obtain ⟨rfl, rfl⟩ := a7
 have a5' : Good J ℓ' ⟨S.own ++ [.obj (mapO q (encM f ([] : List (Int × GE α))))], S.accs, S.reps⟩ w' := a5
 exact ⟨_, ℓ', ⟨S.own ++ [.obj (mapO q (encM f ([] : List (Int × GE α))))], S.accs, S.reps ++ [(agV k p ([] : List (Int × GE α)), agD k p ([] : List (Int × GE α)))]⟩, w', a1, a2, a3, a4, a5'.reps_add _ (by
  intro x hx
  simp only [List.mem_singleton] at hx
  subst hx
  exact (ag_iff (κ := Int) k p []).2 (by intro x hx; cases hx)), a6, h⟩
theorem qh3 {P : Program} {tt : Tab} (hT : TTOK P tt) {α : Type} (f : GE α → Value) (mk : α → Option Addr → Nat → SV) (k : Nat) (p : α → List D) (z : α) (zv : Value) (j : Nat) {t ki e : TypeId} {q : IntKind} {x ix : SV} {S : St} {K : SV → St → Prop} {i : Nat} {n : Int} {g : List (Int × GE α)} {ok : Bool} (ht : tt t = some (.map ki e)) (hk : P.underlying ki = some (.int q)) (hz : ∀ w, (zeroValue e).run P w = .ok zv w)
  (hzf : zv = f (z, none, 0)) (hp : p z = []) (hmk : ∀ v a c ℓ, (mk v a c).den ℓ = f (v, a, c)) (hwf : ∀ v a c m, (mk v a c).wf m = true)
  (hx : x = .mp i) (hi : nth S.own i = some (.obj (mapO q (encM f g)))) (hix : ix = .v (.int q n)) (hj : nth S.reps j = some (agV k p g, agD k p g))
  (h : ∀ a c, addReps S [slR k (p ((mget (er g) n).getD z)) a c] (fun S' => K (match ok with
   | true => .tup [mk ((mget (er g) n).getD z) a c, .v (.bool (mget (er g) n).isSome)]
   | false => mk ((mget (er g) n).getD z) a c) S')) : AtSem P (fun ℓ => Instr.lookup t (x.den ℓ) (ix.den ℓ) ok) S K := by
 simp only [qbc] at h
 constructor
 intro J ℓ w hG hJ
 have hrep := hG.reps _ (qr (j := j) hj)
 rw [ag_iff] at hrep
 obtain ⟨r, ℓ', S', w', a1, a2, a3, a4, a5, a6, a7⟩ := (at_lookup hT (P := P) (S := S) (ok := ok) (K := fun v S' => S' = S ∧ ∀ ℓ, v.den ℓ = (match ok with
   | true => SV.tup [mk ((mget (er g) n).getD z) (((mget g n).map (fun u : GE α => u.2.1)).getD none) (((mget g n).map (fun u : GE α => u.2.2)).getD 0), .v (.bool (mget (er g) n).isSome)]
   | false => mk ((mget (er g) n).getD z) (((mget g n).map (fun u : GE α => u.2.1)).getD none) (((mget g n).map (fun u : GE α => u.2.2)).getD 0)).den ℓ) (l := encM f g) (n := n) (i := i) zv ht hk hz hx hi hix (by
  intro v hv
  rw [qi1, Option.map_eq_some_iff] at hv
  obtain ⟨u, hu, rfl⟩ := hv
  refine ⟨rfl, fun ℓ => ?_⟩
  rw [qlk, hu]
  cases ok <;> simp [SV.den, qc, hmk]) (by
  intro hv
  rw [qi1, Option.map_eq_none_iff] at hv
  refine ⟨rfl, fun ℓ => ?_⟩
  rw [qlk, hv]
  cases ok <;> simp [SV.den, qc, hmk, hzf])).sem J ℓ w hG hJ
 obtain ⟨rfl, hden⟩ := a7
 refine ⟨_, ℓ', _, w', a1.trans (congrArg (fun x => Result.ok x w') (hden ℓ')), ?_, a3, a4, a5.reps_add _ ?_, a6, h (((mget g n).map (fun u : GE α => u.2.1)).getD none) (((mget g n).map (fun u : GE α => u.2.2)).getD 0)⟩
 ·cases ok <;> simp [SV.wf, qo, hwf]
 ·intro y hy
  simp only [List.mem_singleton] at hy
  subst hy
  have hrep' := a5.reps _ (qr (j := j) hj)
  rw [ag_iff] at hrep'
  rw [qlk]
  cases hg : mget g n with
  | none =>
   simp only [Option.map_none, Option.getD_none, Rep, RepC, hp]
   exact ⟨none, 0, rfl, by simp, by simp⟩
  | some u =>
   simp only [Option.map_some, Option.getD_some, Rep]
   exact hrep'.get hg
theorem qod {P : Program} {tt : Tab} (hT : TTOK P tt) {α : Type} (f : GE α → Value) (k : Nat) (p : α → List D) (v : α) (a : OA) (c : Nat) (j j2 : Nat) {t ki e : TypeId} {q : IntKind} {x ix y : SV} {S : St} {K : SV → St → Prop} {i : Nat} {n : Int} {g : List (Int × GE α)} {ds : List D} (ht : tt t = some (.map ki e)) (hk : P.underlying ki = some (.int q))
  (hx : x = .mp i) (hi : nth S.own i = some (.obj (mapO q (encM f g)))) (hix : ix = .v (.int q n)) (hy : ∀ ℓ, y.den ℓ = f (v, a, c)) (hj : nth S.reps j = some (agV k p g, agD k p g)) (hds : p v = ds) (hj2 : nth S.reps j2 = some (.slice a ds.length c, .sl k ds))
  (h : forceL (setNth S.own i (.obj (mapO q (encM f (mput n (v, a, c) g))))) (fun own => forceL (setNth S.reps j (agV k p (mput n (v, a, c) g), agD k p (mput n (v, a, c) g))) (fun reps => K undefS ⟨own, S.accs, reps⟩))) : AtSem P (fun ℓ => do Instr.mapUpdate t (x.den ℓ) (ix.den ℓ) (y.den ℓ); pure undef) S K := by
 simp only [qq] at h
 subst hds
 constructor
 intro J ℓ w hG hJ
 obtain ⟨r, ℓ', S', w', a1, a2, a3, a4, a5, a6, a7⟩ := (qm0 hT (P := P) (S := S) (K := fun r S' => r = undefS ∧ S' = ⟨setNth S.own i (.obj (mapO q (encM f (mput n (v, a, c) g)))), S.accs, S.reps⟩) (l := encM f g) (n := n) (i := i) (f (v, a, c)) ht hk hx hi hix hy (by
  rw [qq, qag, qna]; exact ⟨rfl, rfl⟩)).sem J ℓ w hG hJ
 obtain ⟨rfl, rfl⟩ := a7
 have hrep := a5.reps _ (qr (j := j) hj)
 rw [ag_iff] at hrep
 have hrv := a5.reps _ (qr (j := j2) hj2)
 simp only [Rep] at hrv
 refine ⟨_, ℓ', ⟨setNth S.own i (.obj (mapO q (encM f (mput n (v, a, c) g)))), S.accs, setNth S.reps j (agV k p (mput n (v, a, c) g), agD k p (mput n (v, a, c) g))⟩, w', a1, a2, a3, a4, ⟨a5.len, a5.nodup, a5.lt, a5.memJ, a5.wf, a5.own, a5.accs, ?_⟩, a6, h⟩
 intro y hy
 rcases List.mem_or_eq_of_mem_set hy with h1 | h1
 ·exact a5.reps y h1
 ·subst h1
  exact (ag_iff k p _).2 (AllR.put hrv hrep)
theorem Pure.atB {P : Program} {cl : Cal} {args : List SV} {rs : List (Value × D)} {R : SV → List (Value × D) → Prop} {S : St} {K : Out → St → Prop} (h : Pure P cl args rs R) (sel : List RSel) (hrs : selReps S sel = some rs) (hargs : qo 0 args = true) (hcl : cl.wf 0 = true)
  (k : ∀ r out, R r out → out = [] ∧ K (.ret r) S) : Meets P cl args S K := by
 intro J ℓ w hG hJ
 have hG0 : Good J [] ⟨[], [], rs⟩ w := by
  refine ⟨rfl, by simp [mutS, mutL], by simp [mutS, mutL], by simp [mutS, mutL], by simp, by simp, by simp, ?_⟩
  have hx : ∀ x, x < w.heap.size → Jx J (mutS ℓ S) x → Jx J (mutS [] ⟨[], [], rs⟩) x ∧ w.heap[x]? = w.heap[x]? := fun x _ hj => ⟨⟨hj.1, by simp [mutS, mutL]⟩, rfl⟩
  intro p hp
  rcases qc2 hrs p hp with h1 | ⟨j, a, hj, haj, rfl⟩ | ⟨k, rfl⟩
  ·exact (hG.reps p h1).map hx
  ·have hok := hG.accs a (List.mem_of_getElem? haj)
   simp only [Rep, RepC]
   rcases hok with ⟨hv, hd⟩ | ⟨b, cp, cc, hv, hgb, hcs, hl, hre⟩
   ·rw [hv, hd]
    exact ⟨none, 0, rfl, ⟨Nat.le_refl _, Nat.zero_le _⟩, .inl rfl⟩
   ·rw [hv]
    have hba : b ∈ accBlk a.v := by simp [hv, accBlk]
    have hbm : b ∈ S.accs.flatMap (fun a => accBlk a.v) := List.mem_flatMap.2 ⟨a, List.mem_of_getElem? haj, hba⟩
    refine ⟨_, cp, rfl, hl, .inr ⟨b, 0, cc, a.T, (0, 0), rfl, ⟨hG.memJ b (by simp only [mutS]; exact List.mem_append.2 (.inr hbm)), by simp [mutS, mutL]⟩, hgb, ?_⟩⟩
    simpa using RepE.map hx a.k _ _ hre
  ·exact ⟨none, 0, rfl, ⟨Nat.zero_le _, Nat.zero_le _⟩, .inl rfl⟩
 obtain ⟨nx, h1, h2⟩ := h _ [] w hG0 hJ
 refine ⟨nx, by rw [qjq ℓ [] args cl hargs hcl]; exact h1, h2.mono ?_⟩
 rintro e w' ⟨ℓ', o, S', he, hwf, _, hx, hG', hf, r, out, rfl, rfl, hr0, hR⟩
 obtain ⟨rfl, hK⟩ := k r out hR
 have hx0 : Ext [] w w' := by simpa [mutS, mutL] using hx
 have hℓ' : ℓ' = [] := by have := hG'.len; simpa using this
 subst hℓ'
 refine ⟨ℓ, .ret r, S, ?_, SV.wf_mono (Nat.zero_le _) r hr0, List.prefix_refl _, hx0.mono (by simp), ?_, fun b hb => .inl hb, hK⟩
 ·rw [he]; simp only [Out.ending]; rw [qac (n := 0) (ℓ := ℓ) (ℓ' := []) (fun i hi => by omega) r hr0]
 ·exact hG.beside hx0.size (fun b hb => hx0.block b hb (by simp))
end

section
open Go
theorem qcl {P : Program} {tt : Tab} (hT : TTOK P tt) {t e : TypeId} {k len : Nat} {zs : List Value} {x ix : SV} {S : St} {K : SV → St → Prop} {i off : Nat} {n : Int} {kk : IntKind} (hx : x = .loc i off) (hi : ix = .v (.int kk n)) (ht : tt t = some (.arr len e k zs)) (h0 : 0 ≤ n) (hlt : n < len) (hl : Nat.blt i S.own.length = true)
  (h : K (.lod i (off + n.toNat * k)) S) : AtPure P (fun ℓ => Instr.indexAt t (x.den ℓ) (ix.den ℓ)) S K := by
 subst hx hi
 refine AtPure.val _ (by simpa [SV.wf] using hl) (fun ℓ w => ?_) h
 obtain ⟨_, _, _, hu, hse⟩ := hT t _ ht
 simp only [Instr.indexAt, SV.den, asIntOf, pure_bind, Sem.run_bind, qk hu, Result.andThen_ok, Instr.sureAddr]
 rw [if_pos ⟨h0, hlt⟩]
 simp only [Sem.run_bind, hse, Result.andThen_ok, Sem.run_pure, qbi, Nat.add_assoc]
theorem qh0 {P : Program} {tt : Tab} (hT : TTOK P tt) {t T : TypeId} {x : SV} {S : St} {K : SV → St → Prop} {i o : Nat} {cs : List SV} {s : SV} {z : Value} (hx : x = .lod i o) (hk : nth S.own i = some (.cells T cs)) (hs : cs[o]? = some s) (ht : tt t = some (.cell z)) (h : K s S) : AtSem P (fun ℓ => Instr.loadAt t (x.den ℓ)) S K := by
 subst hx
 constructor
 intro J ℓ w hG hJ
 have hk' : S.own[i]? = some (.cells T cs) := by rw [← qz]; exact hk
 obtain ⟨b, hbl, hok⟩ := qgh hG hk'
 have hwf := qae hG.wf hk'
 simp only [BlkOK] at hok
 obtain ⟨hagg, _⟩ := hT t _ ht
 have hd : ℓ.getD i default = b := by simp [List.getD, hbl]
 have hcell : w.cell? ⟨b.block, b.off + o, none⟩ = some (s.den ℓ) := by
  simp only [World.cell?, hok.2, hok.1, Nat.zero_add]
  have := qc4 ℓ cs o
  rw [hs] at this
  simpa using this
 refine ⟨s, ℓ, S, w, ?_, SV.wfL_iff.1 hwf s (List.mem_of_getElem? hs), List.prefix_refl _, Ext.refl _ _, hG, fun _ hb => .inl hb, h⟩
 simp only [SV.den, hd, Instr.loadAt, Instr.sureAddr, pure_bind, loadVar, Sem.run_bind, hagg, Result.andThen_ok, Bool.false_eq_true, if_false, run_load, hcell]
theorem qg7 {P : Program} {tt : Tab} (hT : TTOK P tt) {t T : TypeId} {x y : SV} {S : St} {K : SV → St → Prop} {i o : Nat} {cs cs' : List SV} {u z : Value} {d : D} (hx : x = .lod i o) (hy : y = .v u) (hu : D.one d = some u) (hk : nth S.own i = some (.cells T cs)) (ho : o < cs.length) (ht : tt t = some (.cell z)) (hcs : cs' = cs.set o (.v u))
  (h : forceL (setNth S.own i (.cells T cs')) (fun own => K undefS ⟨own, S.accs, S.reps⟩)) : AtSem P (fun ℓ => do Instr.storeAt t (x.den ℓ) (y.den ℓ); pure undef) S K := by
 subst hx hy hcs
 rw [qq] at h
 constructor
 intro J ℓ w hG hJ
 have hk' : S.own[i]? = some (.cells T cs) := by rw [← qz]; exact hk
 obtain ⟨b, hbl, hok⟩ := qgh hG hk'
 have hwf := qae hG.wf hk'
 simp only [BlkOK] at hok
 have hlen : (qc ℓ cs).toArray.size = cs.length := by simp [qp]
 obtain ⟨hu1, hu2⟩ := qho hu
 have hst := run_storeCells_at P b.block o T [u] 0 (qc ℓ cs).toArray w hok.2 (by rw [hlen]; simp; omega) (by simp [hu1])
 have hset : qc ℓ (cs.set o (.v u)) = (qc ℓ cs).set o u := by rw [qbd, qbd, List.map_set]; rfl
 have hlist : ((qc ℓ cs).toArray.toList.take o ++ [u] ++ (qc ℓ cs).toArray.toList.drop (o + 1)) = qc ℓ (cs.set o (.v u)) := by
  rw [hset, List.set_eq_take_append_cons_drop, if_pos (by rw [qp]; exact ho)]
  simp
 simp only [Nat.add_zero, List.length_cons, List.length_nil, Nat.zero_add, hlist] at hst
 have hrow : (w.setRow b.block (qc ℓ (cs.set o (.v u))).toArray).heap[b.block]? = some (.cells (qc ℓ (cs.set o (.v u))).toArray T (0, 0)) := setRow_heap w _ _ _ _ _ hok.2
 have hsz : (w.setRow b.block (qc ℓ (cs.set o (.v u))).toArray).heap.size = w.heap.size := by simp [World.setRow]
 have hoth : ∀ y, y ≠ b.block → (w.setRow b.block (qc ℓ (cs.set o (.v u))).toArray).heap[y]? = w.heap[y]? := fun y hy => setRow_other w _ _ _ hy
 have hwf' : qo S.own.length (cs.set o (.v u)) = true := by
  refine SV.wfL_iff.2 (fun s hs => ?_)
  rcases List.mem_or_eq_of_mem_set hs with h1 | h1
  ·exact SV.wfL_iff.1 hwf s h1
  ·subst h1; rfl
 have hgood := hG.update (k' := .cells T (cs.set o (.v u))) hk' hbl rfl rfl hwf' (Nat.le_of_eq hsz.symm) (fun y _ hy => hoth y hy) ⟨hok.1, hrow⟩
 have hbm : b.block ∈ mutS ℓ S := by simp only [mutS]; exact List.mem_append.2 (.inl (mem_mutL.2 ⟨i, b, _, hbl, hk', rfl, rfl⟩))
 have hmut : mutS ℓ ⟨S.own.set i (.cells T (cs.set o (.v u))), S.accs, S.reps⟩ = mutS ℓ S := by
  simp only [mutS]; rw [qdz (k' := Blk.cells T (cs.set o (.v u))) hk' rfl]
 have hsn : setNth S.own i (.cells T (cs.set o (.v u))) = S.own.set i (.cells T (cs.set o (.v u))) := rfl
 rw [hsn] at h
 have hd : ℓ.getD i default = b := by simp [List.getD, hbl]
 refine ⟨undefS, ℓ, _, w.setRow b.block (qc ℓ (cs.set o (.v u))).toArray, ?_, rfl, List.prefix_refl _, ⟨rfl, rfl, Nat.le_of_eq hsz.symm, fun y _ hy => hoth y (fun e => hy (e ▸ hbm))⟩, hgood, fun y hy => .inl (by rw [hmut] at hy; exact hy), h⟩
 have hcs : u.cells.size = 1 := by rw [hu2]; rfl
 have hcl : u.cells.toList = [u] := by rw [hu2]
 have hsz1 := (tt_cell hT (.inl ⟨z, ht⟩)).2 w
 simp only [SV.den, hd, hok.1, Nat.zero_add, Instr.storeAt, Instr.sureAddr, pure_bind, storeVar, Sem.run_bind, hsz1, Result.andThen_ok, hcs, ne_eq, not_true_eq_false, if_false, hcl, hst, Sem.run_pure, undefS, qc, undef]
theorem at_indexS {P : Program} {tt : Tab} (hT : TTOK P tt) {t e : TypeId} {zs : List Value} {x ix : SV} {S : St} {K : SV → St → Prop} {n : Int} {len : Nat} {kk : IntKind} {cs : List SV} {u z : Value} (hx : x = .agg cs) (hi : ix = .v (.int kk n)) (ht : tt t = some (.arr len e 1 zs)) (he : tt e = some (.cell z)) (h0 : 0 ≤ n) (hlt : n < len) (hd : cs[n.toNat]? = some (.v u))
  (h : K (.v u) S) : AtPure P (fun ℓ => Instr.index t (x.den ℓ) (ix.den ℓ)) S K := by
 subst hx hi
 refine AtPure.val _ rfl (fun ℓ w => ?_) h
 obtain ⟨_, _, _, hu, hsz⟩ := hT t _ ht
 have hag := (hT e _ he).agg
 have hg : ((qc ℓ cs).toArray)[n.toNat * 1]? = some u := by
  simp [qbd, SV.den, hd]
 have hb : 0 ≤ n ∧ n < (len : Int) := ⟨h0, hlt⟩
 simp only [Instr.index, SV.den, asIntOf, pure_bind, Sem.run_bind, qk hu, Result.andThen_ok, if_pos hb, hsz w, part, hag w]
 simp only [Bool.false_eq_true, if_false, hg, Sem.run_pure]
theorem qmo {P : Program} {tt : Tab} (hT : TTOK P tt) {t e : TypeId} {k len : Nat} {zs : List Value} {x : SV} {sl : Option SV} {S : St} {K : SV → St → Prop} {i off : Nat} {lo : Int} {q : IntKind} (hx : x = .loc i off) (hlo : sl = some (.v (.int q lo))) (ht : tt t = some (.arr len e k zs)) (h0 : 0 ≤ lo) (h1 : lo < len) (hl : Nat.blt i S.own.length = true)
  (h : K (.slo i (off + lo.toNat * k) (len - lo.toNat) (len - lo.toNat)) S) : AtPure P (fun ℓ => Instr.sliceAt t (x.den ℓ) (denO ℓ sl) (denO ℓ none) (denO ℓ none)) S K := by
 subst hx hlo
 refine AtPure.val _ (by simpa [SV.wf] using hl) (fun ℓ w => ?_) h
 obtain ⟨_, _, _, hu, hse⟩ := hT t _ ht
 have h2 : 0 ≤ lo ∧ lo ≤ (len : Int) := ⟨h0, by omega⟩
 have h3 : ¬ len = lo.toNat := by omega
 simp only [Instr.sliceAt, SV.den, denO, Sem.run_bind, qk hu, Result.andThen_ok, Instr.sureAddr, pure_bind, Instr.sliceBounds, Instr.sliceBound, asIntOf, Option.isSome_none, Bool.false_eq_true, if_false]
 simp only [if_pos h2, Sem.run_pure, Result.andThen_ok, pure_bind, hse, Sem.run_bind, if_neg h3, qbi, Nat.add_assoc]
theorem qlt (z : Value) (n : Nat) : (Builtin.zeroCells #[z] n).toList = List.replicate n z := by
 simp only [Builtin.zeroCells]
 apply List.ext_getElem
 ·simp
 ·intro i h1 h2
  simp [Nat.mod_one]
theorem qmw {P : Program} {tt : Tab} (hT : TTOK P tt) {t e T ty : TypeId} {x : SV} {S : St} {K : SV → St → Prop} {i off n c : Nat} {cs cs' : List SV} {z : Value} {d : D} (hx : x = .slo i off n c) (hz : D.one d = some z) (hk : nth S.own i = some (.cells T cs)) (hle : off + n ≤ cs.length) (ht : tt t = some (.slice e 1)) (he : tt e = some (.cell z)) (hcs : cs' = setRange cs off (List.replicate n (.v z)))
  (h : forceL (setNth S.own i (.cells T cs')) (fun own => K (.tup []) ⟨own, S.accs, S.reps⟩)) : AtSem P (fun ℓ => Builtin.clear_ #[t] ty (qc ℓ [x]).toArray) S K := by
 subst hx hcs
 rw [qq] at h
 constructor
 intro J ℓ w hG hJ
 have hk' : S.own[i]? = some (.cells T cs) := by rw [← qz]; exact hk
 obtain ⟨b, hbl, hok⟩ := qgh hG hk'
 have hwf := qae hG.wf hk'
 simp only [BlkOK] at hok
 have hlen : (qc ℓ cs).toArray.size = cs.length := by simp [qp]
 obtain ⟨hu1, hu2⟩ := qho hz
 have hd : ℓ.getD i default = b := by simp [List.getD, hbl]
 obtain ⟨_, hu, _⟩ := hT t _ ht
 have hzv := (hT e _ he).zero
 have hsn : ∀ l, setNth S.own i (.cells T l) = S.own.set i (.cells T l) := fun _ => rfl
 rw [hsn] at h
 by_cases hn : n = 0
 ·subst hn
  have e0 : setRange cs off (List.replicate 0 (SV.v z)) = cs := by simp [setRange]
  rw [e0] at h
  have e1 : S.own.set i (.cells T cs) = S.own := by
   apply List.ext_getElem?
   intro j
   rw [List.getElem?_set]
   split
   ·rename_i hij; subst hij; split
    ·rw [hk']
    ·rename_i hlt; rw [List.getElem?_eq_none (by omega)] 
   ·rfl
  rw [e1] at h
  refine ⟨.tup [], ℓ, S, w, ?_, rfl, List.prefix_refl _, Ext.refl _ _, hG, fun _ hb => .inl hb, h⟩
  simp [Builtin.clear_, qc, SV.den, Sem.run_bind, qk hu, Result.andThen_ok, Sem.run_pure]
 ·have hst := run_storeCells_at P b.block off T (List.replicate n z) 0 (qc ℓ cs).toArray w hok.2 (by rw [hlen]; simp; omega) (by simp [hu1])
  have hsd : qc ℓ (setRange cs off (List.replicate n (SV.v z))) = (qc ℓ cs).toArray.toList.take (off + 0) ++ List.replicate n z ++ (qc ℓ cs).toArray.toList.drop (off + 0 + (List.replicate n z).length) := by
   simp [setRange, qbd, SV.den, List.map_take, List.map_drop, List.append_assoc]
  rw [← hsd] at hst
  have hrow : (w.setRow b.block (qc ℓ (setRange cs off (List.replicate n (SV.v z)))).toArray).heap[b.block]? = some (.cells (qc ℓ (setRange cs off (List.replicate n (SV.v z)))).toArray T (0, 0)) := setRow_heap w _ _ _ _ _ hok.2
  have hsz : (w.setRow b.block (qc ℓ (setRange cs off (List.replicate n (SV.v z)))).toArray).heap.size = w.heap.size := by simp [World.setRow]
  have hoth : ∀ y, y ≠ b.block → (w.setRow b.block (qc ℓ (setRange cs off (List.replicate n (SV.v z)))).toArray).heap[y]? = w.heap[y]? := fun y hy => setRow_other w _ _ _ hy
  have hwf' : qo S.own.length (setRange cs off (List.replicate n (SV.v z))) = true := by
   refine qd6 hwf (SV.wfL_iff.2 (fun s hs => ?_))
   rw [List.eq_of_mem_replicate hs]; rfl
  have hgood := hG.update (k' := .cells T (setRange cs off (List.replicate n (SV.v z)))) hk' hbl rfl rfl hwf' (Nat.le_of_eq hsz.symm) (fun y _ hy => hoth y hy) ⟨hok.1, hrow⟩
  have hbm : b.block ∈ mutS ℓ S := by simp only [mutS]; exact List.mem_append.2 (.inl (mem_mutL.2 ⟨i, b, _, hbl, hk', rfl, rfl⟩))
  have hmut : mutS ℓ ⟨S.own.set i (.cells T (setRange cs off (List.replicate n (SV.v z)))), S.accs, S.reps⟩ = mutS ℓ S := by
   simp only [mutS]; rw [qdz (k' := Blk.cells T (setRange cs off (List.replicate n (SV.v z)))) hk' rfl]
  refine ⟨.tup [], ℓ, _, w.setRow b.block (qc ℓ (setRange cs off (List.replicate n (SV.v z)))).toArray, ?_, rfl, List.prefix_refl _, ⟨rfl, rfl, Nat.le_of_eq hsz.symm, fun y _ hy => hoth y (fun e => hy (e ▸ hbm))⟩, hgood, fun y hy => .inl (by rw [hmut] at hy; exact hy), h⟩
  obtain ⟨n', rfl⟩ : ∃ n', n = n' + 1 := ⟨n - 1, by omega⟩
  simp only [Builtin.clear_, qc, SV.den, hd, hok.1, Nat.zero_add]
  simp only [List.getElem?_toArray, List.getElem?_cons_zero, Sem.run_bind, qk hu, Result.andThen_ok, hzv, hu2, qlt, hst, Sem.run_pure]
end
end Go.Tr

namespace Go.Proofs.YtogicnodmgdnbaaGreat
section
open Go.Tr Go Go.Proofs.Tryz
set_option maxRecDepth 10000
def freeL (t : Tm) : List Int := if isProper t = true then numsOf freeOf t else []
def freeE (t : Tm) : Int := if isProper t = true then 0 else 2
theorem free0 (t : Tm) (a : OA) (c : Nat) :
  Pure Tryz.prog (fnS 60) [tmS t a c] [tmR t a c]
   (fun r out => ∃ (b1 : OA) (d1 : Nat), r = .tup [.v (.slice b1 (List.map (D.int .i64) (freeL t)).length d1), iS (freeE t)] ∧ out = [(.slice b1 (List.map (D.int .i64) (freeL t)).length d1, .sl 1 (List.map (D.int .i64) (freeL t)))]) := by
 refine qb (N := 8) (m := 0) (dt := fun _ => none) [] ttOK Tryz.func60 rfl Tryz.call60 Tryz.ntmps60 rfl rfl rfl mixed (by kernel_rfl) ?_
 refine (qhe 108 freeOf qky t a c).opened.at (by simp) rfl rfl ?_
 rintro r out ⟨⟨hp, rfl, rfl⟩ | ⟨hp, v, rfl, rfl⟩, ho⟩
 ·have e1 : freeL t = [] := by rw [freeL, hp]; rfl
  have e2 : freeE t = 2 := by rw [freeE, hp]; rfl
  rw [e1, e2]
  exact qa [.nil 1] [(.slice none 0 0, .sl 1 [])] rfl rfl ⟨none, 0, rfl, rfl⟩
 ·have e1 : freeL t = numsOf freeOf t := by rw [freeL, if_pos hp]
  have e2 : freeE t = 0 := by rw [freeE, if_pos hp]
  obtain ⟨a', c', rfl, hle, hle2⟩ := ho _ (List.mem_singleton.2 rfl)
  rw [e1, e2]
  exact qa [.old 1] _ rfl rfl ⟨a', c', rfl, rfl⟩
end

section
open Go.Tr Go Go.Proofs.Tryz
set_option maxRecDepth 100000
def setL (p : Nat → Bool) : List SV := (List.range 700).map (fun i => .v (.bool (p i)))
theorem qal (p : Nat → Bool) : (setL p).length = 700 := by simp [setL]
theorem qdp (p : Nat → Bool) {i : Nat} (h : i < 700) : (setL p)[i]? = some (.v (.bool (p i))) := by
 simp only [setL, List.getElem?_map, List.getElem?_range h, Option.map_some]
theorem qlq {l : List SV} {p : Nat → Bool} (hl : l.length = 700) (h : ∀ i, i < 700 → l[i]? = some (.v (.bool (p i)))) : l = setL p := by
 apply List.ext_getElem?
 intro j
 by_cases hj : j < 700
 ·rw [h j hj, qdp p hj]
 ·rw [List.getElem?_eq_none (by omega), List.getElem?_eq_none (by rw [qal]; omega)]
theorem set_setL (p : Nat → Bool) {i : Nat} (_h : i < 700) (b : Bool) : (setL p).set i (.v (.bool b)) = setL (fun j => if j = i then b else p j) := by
 refine qlq (by rw [List.length_set, qal]) (fun j hj => ?_)
 rw [List.getElem?_set]
 by_cases e : i = j
 ·subst e; rw [if_pos rfl, if_pos (by rw [qal]; exact hj), if_pos rfl]
 ·rw [if_neg e, qdp p hj, if_neg (fun h => e h.symm)]
abbrev setS (p : Nat → Bool) : SV := .agg (setL p)
abbrev none7 : Nat → Bool := fun _ => false
def plusF (p : Nat → Bool) (l : List Int) : Nat → Bool := fun i => p i || l.any (fun k => k == (i : Int))
set_option maxHeartbeats 4000000 in
theorem plus_spec (p : Nat → Bool) (l : List Int) (a : OA) (c : Nat) (hl : l.length ≤ 1000000) (h : ∀ k ∈ l, 0 ≤ k ∧ k < 700) : Pure Tryz.prog (fnS 172) [setS p, .v (.slice a (List.map (D.int .i64) l).length c)] [(.slice a (List.map (D.int .i64) l).length c, .sl 1 (List.map (D.int .i64) l))] (fun r out => r = setS (plusF p l) ∧ out = []) := by
 refine qb (N := 17) (m := 0) (dt := fun _ => none) [] ttOK Tryz.func172 rfl Tryz.call172 Tryz.ntmps172 rfl rfl rfl mixed (by kernel_rfl) ?_
 refine AtLoop.mk ⟨Nat × (Nat → Bool), fun x => [(9, iS (x.1 : Int)), (8, iS ((List.map (D.int .i64) l).length : Int)), (7, .v (.slice a (List.map (D.int .i64) l).length c)), (4, .loc 1 0), (2, .loc 0 0)], fun x => ⟨[.cells 146 (setL x.2), .cells 146 (setL none7)], [], [(.slice a (List.map (D.int .i64) l).length c, .sl 1 (List.map (D.int .i64) l))]⟩, fun x => x.1 ≤ l.length ∧ x.2 = plusF p (l.take x.1), fun x => l.length - x.1, (0, p), ⟨Nat.zero_le _, by funext i; simp [plusF]⟩, ⟨rfl, rfl, rfl, rfl, rfl, trivial⟩, StLe.refl _, fun _ _ => ⟨rfl, rfl⟩, ?_⟩
 rintro ⟨j, q⟩ ⟨hj, hq⟩
 simp only at hj hq
 refine AtIf.mk (fun h1 => ?_) (fun h1 => ?_)
 ·have hj' : j < l.length := by simpa using h1
  obtain ⟨k, hk⟩ : ∃ k, l[j]? = some k := ⟨_, List.getElem?_eq_getElem hj'⟩
  have hkb := h k (List.mem_of_getElem? hk)
  refine qd ttOK 0 rfl rfl rfl rfl (by omega) (qav (D.int .i64) (i := ((j : Int)).toNat) (by rw [Int.toNat_natCast]; exact hk)) ?_
  refine qcl ttOK rfl rfl rfl hkb.1 hkb.2 rfl ?_
  refine qg7 (d := .bool true) (cs' := setL (fun i => if i = k.toNat then true else q i)) ttOK rfl rfl rfl rfl (by rw [qal]; omega) rfl ?_ ?_
  ·rw [Nat.zero_add, Nat.mul_one]
   exact (set_setL q (by omega) true).symm
  refine ⟨(j + 1, fun i => if i = k.toNat then true else q i), ⟨by omega, ?_⟩, by simp only; omega, ⟨?_, rfl, rfl, rfl, rfl, trivial⟩, StLe.gen 2 [] [.old 0] rfl rfl rfl rfl rfl rfl rfl⟩
  ·subst hq
   funext i
   simp only [plusF]
   rw [List.take_add_one, hk]
   simp only [Option.toList_some, List.any_append, List.any_cons, List.any_nil, Bool.or_false]
   by_cases e : i = k.toNat
   ·rw [if_pos e]
    have : (k == (i : Int)) = true := by rw [beq_iff_eq]; omega
    simp [this]
   ·rw [if_neg e]
    have : (k == (i : Int)) = false := by rw [beq_eq_false_iff_ne]; omega
    simp [this]
  ·show some (iS (IntKind.i64.wrap ((j : Int) + 1))) = some (iS ((j + 1 : Nat) : Int))
   rw [wrap_i64 (by omega) (by omega)]; rfl
 ·have hj' : j = l.length := by
   have : ¬ (j : Int) < ((List.map (D.int .i64) l).length : Int) := by simpa using h1
   rw [List.length_map] at this
   omega
  subst hj'
  rw [List.take_length] at hq
  subst hq
  exact AtRet.pure [] rfl (by simp) ⟨rfl, rfl⟩
def withF (p q : Nat → Bool) : Nat → Bool := fun i => p i || q i
def firstF (p : Nat → Bool) (n : Nat) : Nat → Bool := fun i => if i < n then p i else false
theorem with_next {p q u : Nat → Bool} {j : Nat} {b : Bool} (hu : ∀ i, u i = (p i || (decide (i < j) && q i))) (hb : b = (u j || q j)) : ∀ i, (fun i => if i = j then b else u i) i = (p i || (decide (i < j + 1) && q i)) := by
 intro i
 simp only
 by_cases e : i = j
 ·subst e
  rw [if_pos rfl, hb, hu]
  simp
 ·rw [if_neg e, hu]
  by_cases h2 : i < j
  ·have : i < j + 1 := by omega
   simp [h2, this]
  ·have : ¬ i < j + 1 := by omega
   simp [h2, this]
set_option maxHeartbeats 4000000 in
theorem qmk (p q : Nat → Bool) : Pure Tryz.prog (fnS 141) [setS p, setS q] [] (fun r out => r = setS (withF p q) ∧ out = []) := by
 refine qb (N := 22) (m := 0) (dt := fun _ => none) [] ttOK Tryz.func141 rfl Tryz.call141 Tryz.ntmps141 rfl rfl rfl mixed (by kernel_rfl) ?_
 refine AtLoop.mk ⟨Nat × (Nat → Bool), fun x => [(8, iS (x.1 : Int)), (7, setS q), (4, .loc 2 0), (3, .loc 1 0), (2, .loc 0 0)], fun x => ⟨[.cells 146 (setL x.2), .cells 146 (setL q), .cells 146 (setL none7)], [], []⟩, fun x => x.1 ≤ 700 ∧ ∀ i, x.2 i = (p i || (decide (i < x.1) && q i)), fun x => 700 - x.1, (0, p), ⟨Nat.zero_le _, fun i => by simp⟩, ⟨rfl, rfl, rfl, rfl, rfl, trivial⟩, StLe.refl _, fun _ _ => ⟨rfl, rfl⟩, ?_⟩
 rintro ⟨j, u⟩ ⟨hj, hu⟩
 simp only at hj hu
 refine AtIf.mk (fun h1 => ?_) (fun h1 => ?_)
 ·have hj' : j < 700 := by simp at h1; omega
  have hwr : IntKind.i64.wrap ((j : Int) + 1) = ((j + 1 : Nat) : Int) := by rw [wrap_i64 (by omega) (by omega)]; rfl
  refine at_indexS ttOK rfl rfl rfl rfl (by omega) (by omega) (qdp q (by rw [Int.toNat_natCast]; exact hj')) ?_
  refine qcl ttOK rfl rfl rfl (by omega) (by omega) rfl ?_
  have e0 : 0 + ((j : Int)).toNat * 1 = j := by simp
  refine qh0 (s := .v (.bool (u j))) ttOK rfl rfl (by rw [e0]; exact qdp u hj') rfl ?_
  refine qcl ttOK rfl rfl rfl (by omega) (by omega) rfl ?_
  refine qg7 (d := .bool (u j || q j)) (cs' := setL (fun i => if i = j then (u j || q j) else u i)) ttOK rfl rfl rfl rfl (by rw [qal]; omega) rfl ?_ ?_
  ·rw [e0]; exact (set_setL u hj' (u j || q j)).symm
  exact ⟨(j + 1, fun i => if i = j then (u j || q j) else u i), ⟨by omega, with_next hu rfl⟩, by simp only; omega, ⟨congrArg (fun n => some (iS n)) hwr, rfl, rfl, rfl, rfl, trivial⟩, StLe.gen 3 [] [] rfl rfl rfl rfl rfl rfl rfl⟩
 ·have hj' : j = 700 := by simp at h1; omega
  subst hj'
  have e2 : setL u = setL (withF p q) := by
   refine qlq (qal u) (fun i hi => ?_)
   rw [qdp u hi, hu]
   simp [hi, withF]
  exact AtRet.pure [] rfl (by simp) ⟨congrArg SV.agg e2, rfl⟩
theorem qny (p : Nat → Bool) (n : Nat) (h : n < 700) : setL (firstF p n) = setRange (setL p) n (List.replicate (700 - n) (.v (.bool false))) := by
 refine (qlq ?_ (fun i hi => ?_)).symm
 ·rw [qei _ _ _ (by rw [List.length_replicate, qal]; omega), qal]
 ·unfold setRange
  by_cases e : i < n
  ·rw [List.getElem?_append_left (by rw [List.length_take, qal]; omega), List.getElem?_take, if_pos e, qdp p hi]
   simp [firstF, e]
  ·rw [List.getElem?_append_right (by rw [List.length_take, qal]; omega), List.length_take, qal, Nat.min_eq_left (by omega), List.getElem?_append_left (by rw [List.length_replicate]; omega), List.getElem?_replicate, if_pos (by omega)]
   simp [firstF, e]
set_option maxHeartbeats 4000000 in
theorem qkx (p : Nat → Bool) (n : Int) (h0 : 0 ≤ n) (h1 : n < 700) : Pure Tryz.prog (fnS 143) [setS p, iS n] [] (fun r out => r = setS (firstF p n.toNat) ∧ out = []) := by
 refine qb (N := 8) (m := 0) (dt := fun _ => none) [] ttOK Tryz.func143 rfl Tryz.call143 Tryz.ntmps143 rfl rfl rfl mixed (by kernel_rfl) ?_
 refine qmo ttOK rfl rfl rfl h0 h1 rfl ?_
 refine qmw (d := .bool false) (cs' := setL (firstF p n.toNat)) ttOK rfl rfl rfl (by show _ ≤ (setL p).length; rw [qal]; omega) rfl rfl ?_ ?_
 ·show setL _ = setRange (setL p) _ _
  rw [Nat.zero_add, Nat.mul_one]
  exact qny p n.toNat (by omega)
 exact AtRet.pure [] rfl (by simp) ⟨rfl, rfl⟩
end

section
open Go.Tr Go Go.Proofs.Tryz
set_option maxRecDepth 100000
abbrev sbS (s : List Bool) (a : OA) (c : Nat) : SV := .v (.slice a (List.map D.bool s).length c)
abbrev sbR (s : List Bool) (a : OA) (c : Nat) : Value × D := (.slice a (List.map D.bool s).length c, .sl 1 (List.map D.bool s))
def lvN (s : List Bool) (n : Int) : Nat := s.length - 1 - n.toNat
def unkF (s : List Bool) (p : Nat → Bool) (n : Int) : Bool := s.getD (lvN s n) false && !p (lvN s n)
def knownF (s : List Bool) (t : Tm) (p : Nat → Bool) : Bool := !((freeL t).any (unkF s p))
def inScope (s : List Bool) (t : Tm) : Prop := ∀ n ∈ freeL t, 0 ≤ n ∧ n < (s.length : Int)
theorem any_drop {α : Type} {f : α → Bool} {l : List α} {i : Nat} {x : α} (hx : l[i]? = some x) : (l.drop i).any f = (f x || (l.drop (i + 1)).any f) := by
 obtain ⟨h, rfl⟩ := List.getElem?_eq_some_iff.1 hx
 rw [List.drop_eq_getElem_cons h, List.any_cons]
set_option maxHeartbeats 8000000 in
theorem known_spec (s : List Bool) (t : Tm) (p : Nat → Bool) (a2 a4 : OA) (c2 c4 : Nat) (hs : s.length ≤ 700) (hf : inScope s t) : Pure Tryz.prog (fnS 176) [sbS s a2 c2, tmS t a4 c4, setS p] [sbR s a2 c2, tmR t a4 c4] (fun r out => r = bS (knownF s t p) ∧ out = []) := by
 refine qb (N := 18) (m := 0) (dt := fun _ => none) [] ttOK Tryz.func176 rfl Tryz.call176 Tryz.ntmps176 rfl rfl rfl mixed (by kernel_rfl) ?_
 refine (free0 t a4 c4).atR [1] rfl rfl rfl ?_
 rintro _ _ ⟨b1, d1, rfl, rfl⟩
 refine qv fun hok => ?_
 have hB : (List.map (D.int .i64) (freeL t)).length ≤ 1152921504606846976 := (hok (.slice b1 (List.map (D.int .i64) (freeL t)).length d1, .sl 1 (List.map (D.int .i64) (freeL t))) (by simp)).1
 rw [List.length_map] at hB
 refine qb (N := 9) (m := 3) (dt := fun _ => none) [] ttOK Tryz.func135 rfl Tryz.call135 Tryz.ntmps135 rfl rfl rfl mixed (by kernel_rfl) ?_
 refine qb (N := 19) (m := 3) (dt := fun _ => none) [] ttOK Tryz.func169 rfl Tryz.call169 Tryz.ntmps169 rfl rfl rfl mixed (by kernel_rfl) ?_
 refine AtLoop.mk ⟨Nat, fun j => [(8, iS (j : Int)), (7, iS ((List.map (D.int .i64) (freeL t)).length : Int)), (0, .v (.slice b1 (List.map (D.int .i64) (freeL t)).length d1)), (1, .fn (.func 190) [] [.loc 0 0, .loc 2 0])], fun _ => ⟨[.cells 106 [sbS s a2 c2], .cells 47 [iS t.op, iS t.hd, iS t.n, .v (.slice a4 (Tm.encL t.args).length c4)], .cells 146 (setL p)], [], [sbR s a2 c2, tmR t a4 c4, (.slice b1 (List.map (D.int .i64) (freeL t)).length d1, .sl 1 (List.map (D.int .i64) (freeL t)))]⟩, fun j => j ≤ (freeL t).length ∧ (freeL t).any (unkF s p) = ((freeL t).drop j).any (unkF s p), fun j => (freeL t).length - j, 0, ⟨Nat.zero_le _, rfl⟩, ⟨rfl, rfl, rfl, rfl, trivial⟩, StLe.refl _, fun _ _ => ⟨rfl, rfl⟩, ?_⟩
 rintro j ⟨hj, hinv⟩
 refine AtIf.mk (fun h1 => ?_) (fun h1 => ?_)
 ·have hj' : j < (freeL t).length := by
   have : (j : Int) < ((List.map (D.int .i64) (freeL t)).length : Int) := of_decide_eq_true h1
   rw [List.length_map] at this
   omega
  obtain ⟨k, hk⟩ : ∃ k, (freeL t)[j]? = some k := ⟨_, List.getElem?_eq_getElem hj'⟩
  obtain ⟨hk0, hk1⟩ := hf k (List.mem_of_getElem? hk)
  rw [any_drop hk] at hinv
  have hwj : IntKind.i64.wrap ((j : Int) + 1) = ((j + 1 : Nat) : Int) := by rw [wrap_i64 (by omega) (by omega)]; rfl
  refine qd ttOK 2 rfl rfl rfl rfl (by omega) (qav (D.int .i64) (i := ((j : Int)).toNat) (by rw [Int.toNat_natCast]; exact hk)) ?_
  refine qb (N := 21) (m := 4) (dt := fun _ => none) [] ttOK Tryz.func190 rfl Tryz.call190 Tryz.ntmps190 rfl rfl rfl mixed (by kernel_rfl) ?_
  have hw1 : IntKind.i64.wrap (IntKind.i64.wrap (((List.map D.bool s).length : Int) - 1) - k) = ((lvN s k : Nat) : Int) := by
   rw [List.length_map, wrap_i64 (n := (s.length : Int) - 1) (by omega) (by omega), wrap_i64 (by omega) (by omega)]
   unfold lvN
   omega
  have hlt : lvN s k < s.length := by unfold lvN; omega
  obtain ⟨o, ho⟩ : ∃ o, s[lvN s k]? = some o := ⟨_, List.getElem?_eq_getElem hlt⟩
  have hget : s.getD (lvN s k) false = o := by rw [List.getD_eq_getElem?_getD, ho]; rfl
  refine qd (i := IntKind.i64.wrap (IntKind.i64.wrap (((List.map D.bool s).length : Int) - 1) - k)) (d := D.bool o) ttOK 0 rfl rfl rfl rfl (by rw [hw1]; omega) (qav D.bool (by rw [hw1, Int.toNat_natCast]; exact ho)) ?_
  have hfin : ∀ b : Bool, b = unkF s p k → ((freeL t).any (unkF s p) = (b || ((freeL t).drop (j + 1)).any (unkF s p))) := fun b hb => by rw [hb]; exact hinv
  refine AtGuard.mk (fun h2 => ?_) (fun h2 => ?_)
  ·have h2' : o = true := h2
   subst h2'
   refine qcl (n := IntKind.i64.wrap (IntKind.i64.wrap (((List.map D.bool s).length : Int) - 1) - k)) ttOK rfl rfl rfl (by rw [hw1]; omega) (by rw [hw1]; omega) rfl ?_
   refine qh0 (s := .v (.bool (p (lvN s k)))) ttOK rfl rfl (by rw [hw1, Nat.zero_add, Nat.mul_one, Int.toNat_natCast]; exact qdp p (by omega)) rfl ?_
   have hu := hfin (!p (lvN s k)) (by unfold unkF; rw [hget, Bool.true_and])
   refine AtRet.gen _ (StLe.refl _) rfl rfl ?_
   refine AtIf.mk (fun h3 => ?_) (fun h3 => ?_)
   ·have h3' : (!p (lvN s k)) = true := h3
    rw [h3', Bool.true_or] at hu
    refine AtRet.gen _ (StLe.refl _) rfl rfl ?_
    refine AtRet.gen _ (StLe.refl _) rfl rfl ?_
    refine AtRet.pure [] rfl (by simp) ⟨?_, rfl⟩
    unfold knownF
    rw [hu]
    have : decide ((j : Int) ≥ 0) = true := decide_eq_true (by omega)
    show SV.v (.bool (!decide ((j : Int) ≥ 0))) = _
    rw [this]
   ·have h3' : (!p (lvN s k)) = false := h3
    rw [h3', Bool.false_or] at hu
    exact ⟨j + 1, ⟨by omega, hu⟩, by simp only; omega, ⟨congrArg (fun n => some (iS n)) hwj, rfl, rfl, rfl, trivial⟩, StLe.gen 3 [] [.old 0, .old 1, .old 2] rfl rfl rfl rfl rfl rfl rfl⟩
  ·have h2' : o = false := h2
   subst h2'
   have hu := hfin false (by unfold unkF; rw [hget, Bool.false_and])
   rw [Bool.false_or] at hu
   refine AtRet.gen _ (StLe.refl _) rfl rfl ?_
   refine AtIf.mk (fun h3 => by simp at h3) (fun h3 => ?_)
   exact ⟨j + 1, ⟨by omega, hu⟩, by simp only; omega, ⟨congrArg (fun n => some (iS n)) hwj, rfl, rfl, rfl, trivial⟩, StLe.gen 3 [] [.old 0, .old 1, .old 2] rfl rfl rfl rfl rfl rfl rfl⟩
 ·have hj' : j = (freeL t).length := by
   have : ¬ (j : Int) < ((List.map (D.int .i64) (freeL t)).length : Int) := of_decide_eq_false h1
   rw [List.length_map] at this
   omega
  subst hj'
  rw [List.drop_length] at hinv
  refine AtRet.gen _ (StLe.refl _) rfl rfl ?_
  refine AtRet.gen _ (StLe.refl _) rfl rfl ?_
  refine AtRet.pure [] rfl (by simp) ⟨?_, rfl⟩
  unfold knownF
  rw [hinv]
  rfl
end

section
open Go.Tr Go Go.Proofs.Tryz
set_option maxRecDepth 10000
end
end Go.Proofs.YtogicnodmgdnbaaGreat
