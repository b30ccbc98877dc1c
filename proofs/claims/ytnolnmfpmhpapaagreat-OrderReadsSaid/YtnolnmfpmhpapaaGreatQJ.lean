/- Merged texts: Rd1 EvA Awake Reverse. How arguments of struct types read (written by gen_read.py). Condition: each slice that is met weighs no more than the form's own reach. Plain law: functions with fuel that yield what is said of them; loops over lists; what is known of short lists. No program in sight. The contract of trusslaw15.awake: it answers true. No condition. The contract of slices.Reverse at a slice of strings that the run has made. Condition: at most a million strings. -/
import Derived.Test.YtnolnmfpmhpapaaGreatQI
/-! Rd1 -/
section
namespace Go.Proofs.YtnolnmfpmhpapaaGreat
open Go.Tr Go
open Go.ChangeShapes Go.WideShapes Go.ChangeAt Go.RowKit
set_option maxRecDepth 10000
set_option linter.unusedVariables false

theorem cz3 : Tryz.prog.cellsOf 3 = 1 := by kernel_rfl
theorem cz9 : Tryz.prog.cellsOf 9 = 1 := by kernel_rfl
theorem cz23 : Tryz.prog.cellsOf 23 = 1 := by kernel_rfl
theorem cz25 : Tryz.prog.cellsOf 25 = 3 := by kernel_rfl
theorem cz26 : Tryz.prog.cellsOf 26 = 1 := by kernel_rfl
theorem cz28 : Tryz.prog.cellsOf 28 = 6 := by kernel_rfl
theorem cz70 : Tryz.prog.cellsOf 70 = 1 := by kernel_rfl
theorem cz72 : Tryz.prog.cellsOf 72 = 4 := by kernel_rfl
theorem cz74 : Tryz.prog.cellsOf 74 = 6 := by kernel_rfl
theorem cz94 : Tryz.prog.cellsOf 94 = 8 := by kernel_rfl

section
variable {H : Type} {enc : TypeId × Value → H} {W : World}

theorem repC_Tm {W : World} {t : Tm} {a1 : Option Addr} {c1 : Nat} (r1 : RepC (fun _ => True) W (.sl 4 (Tm.encL t.args)) [.slice a1 (Tm.encL t.args).length c1]) : RepC (fun _ => True) W t.enc [.int .i64 t.op, .int .i64 t.hd, .int .i64 t.n, .slice a1 (Tm.encL t.args).length c1] := by
  rw [Tm.enc_eq]
  exact ⟨[.int .i64 t.op], _, rfl, rfl, [.int .i64 t.hd], _, rfl, rfl, [.int .i64 t.n], _, rfl, rfl, [.slice a1 (Tm.encL t.args).length c1], _, rfl, r1, rfl⟩

theorem bz72 : 1 ≤ Tryz.prog.bytesOf 72 := by decide +kernel

theorem rds_Tm (n : Nat) (hel : ∀ m, m < n → ∀ cs x, DataW.trod enc Tryz.prog W 0 (fun _ => true) true m 72 cs = some x → (∀ y ∈ x.1.weights Tryz.prog 72, y ≤ reachBytes) → ∃ t : Tm, RepC (fun _ => True) W t.enc cs)
    {cs : List Value} {x : DataW H × List MemPlace} (h : DataW.trod enc Tryz.prog W 0 (fun _ => true) true n 70 cs = some x) (hw : ∀ y ∈ x.1.weights Tryz.prog 70, y ≤ reachBytes) :
    ∃ (l : List Tm) (a : Option Addr) (c : Nat), cs = [.slice a (Tm.encL l).length c] ∧ RepC (fun _ => True) W (.sl 4 (Tm.encL l)) [.slice a (Tm.encL l).length c] := by
  obtain ⟨l, a, c, e, hr⟩ := read_slice Tryz.underlying70 cz72 (by decide) bz72 Tm.enc n hel h hw
  subst e
  exact ⟨l, a, c, by rw [Tm.encL_length], by rw [Tm.encL_eq, List.length_map]; exact hr⟩

theorem rd_Tm : ∀ (n : Nat) (cs : List Value) (x : DataW H × List MemPlace), DataW.trod enc Tryz.prog W 0 (fun _ => true) true n 72 cs = some x → (∀ y ∈ x.1.weights Tryz.prog 72, y ≤ reachBytes) →
    ∃ (t : Tm) (a1 : Option Addr) (c1 : Nat), cs = [.int .i64 t.op, .int .i64 t.hd, .int .i64 t.n, .slice a1 (Tm.encL t.args).length c1] ∧ RepC (fun _ => True) W (.sl 4 (Tm.encL t.args)) [.slice a1 (Tm.encL t.args).length c1] := by
  intro n
  induction n using Nat.strongRecOn with
  | ind n ih =>
  intro cs x h hw
  obtain ⟨xs, m, rfl, rfl, hl, hlen, hf⟩ := DataW.trod_struct Tryz.underlying72 h
  match xs, hlen with
  | [y0, y1, y2, y3], _ =>
  rw [cz72] at hl
  match cs, hl with
  | [v0, v1, v2, v3], _ =>
  have h0 : DataW.trod enc Tryz.prog W 0 (fun _ => true) true m 3 (([v0, v1, v2, v3].drop 0).take (Tryz.prog.cellsOf 3)) = some y0 := hf 0 _ rfl
  have h1 : DataW.trod enc Tryz.prog W 0 (fun _ => true) true m 3 (([v0, v1, v2, v3].drop 1).take (Tryz.prog.cellsOf 3)) = some y1 := hf 1 _ rfl
  have h2 : DataW.trod enc Tryz.prog W 0 (fun _ => true) true m 3 (([v0, v1, v2, v3].drop 2).take (Tryz.prog.cellsOf 3)) = some y2 := hf 2 _ rfl
  have h3 : DataW.trod enc Tryz.prog W 0 (fun _ => true) true m 70 (([v0, v1, v2, v3].drop 3).take (Tryz.prog.cellsOf 70)) = some y3 := hf 3 _ rfl
  simp only [cz3, cz70, List.drop_zero, List.drop_succ_cons, List.take_succ_cons, List.take_zero] at h0 h1 h2 h3
  simp only [DataW.weights, Tryz.underlying72, List.map_cons, List.map_nil, DataW.weightsEach, List.append_nil, List.mem_append] at hw
  obtain ⟨f0, e0, _, _⟩ := DataW.trod_int Tryz.underlying3 h0
  obtain ⟨f1, e1, _, _⟩ := DataW.trod_int Tryz.underlying3 h1
  obtain ⟨f2, e2, _, _⟩ := DataW.trod_int Tryz.underlying3 h2
  obtain ⟨f3, a1, c1, e3, r1⟩ := rds_Tm m (fun m' hm' cs' x' h' hw' => by
    obtain ⟨t, a1, c1, rfl, r1⟩ := ih m' (by omega) cs' x' h' hw'
    exact ⟨t, repC_Tm r1⟩) h3 (fun y hy => hw y (.inr (.inr (.inr hy))))
  simp only [List.cons.injEq, and_true] at e0 e1 e2 e3
  subst e0
  subst e1
  subst e2
  subst e3
  exact ⟨.mk f0 f1 f2 f3, a1, c1, rfl, r1⟩

theorem rdl_Tm (n : Nat) (cs : List Value) (x : DataW H × List MemPlace) (h : DataW.trod enc Tryz.prog W 0 (fun _ => true) true n 70 cs = some x) (hw : ∀ y ∈ x.1.weights Tryz.prog 70, y ≤ reachBytes) :
    ∃ (l : List Tm) (a : Option Addr) (c : Nat), cs = [.slice a (Tm.encL l).length c] ∧ RepC (fun _ => True) W (.sl 4 (Tm.encL l)) [.slice a (Tm.encL l).length c] :=
  rds_Tm n (fun m' _ cs' x' h' hw' => by
    obtain ⟨t, a1, c1, rfl, r1⟩ := rd_Tm m' cs' x' h' hw'
    exact ⟨t, repC_Tm r1⟩) h hw

theorem argl_Tm {base : Nat} {v : Value} {d : DataW H} {p : List MemPlace} (hok : Value.okWide Tryz.prog W .any base 70 v) (h : DataW.Trod enc Tryz.prog W 0 (fun _ => true) true 70 v d p) (hw : ∀ y ∈ d.weights Tryz.prog 70, y ≤ reachBytes) :
    ∃ (l : List Tm) (a : Option Addr) (c : Nat), v = .slice a (Tm.encL l).length c ∧ Rep (fun _ => True) W (.slice a (Tm.encL l).length c) (.sl 4 (Tm.encL l)) := by
  obtain ⟨a0, l0, c0, rfl⟩ := okWide_slice Tryz.underlying70 hok
  obtain ⟨n, hn⟩ := h
  obtain ⟨l, a, c, e, hr⟩ := rdl_Tm n _ _ hn hw
  simp only [Value.cells, List.cons.injEq, and_true] at e
  exact ⟨l, a, c, e, hr⟩

theorem arg_Tm {base : Nat} {v : Value} {d : DataW H} {p : List MemPlace} (hok : Value.okWide Tryz.prog W .any base 72 v) (h : DataW.Trod enc Tryz.prog W 0 (fun _ => true) true 72 v d p) (hw : ∀ y ∈ d.weights Tryz.prog 72, y ≤ reachBytes) :
    ∃ (t : Tm) (a1 : Option Addr) (c1 : Nat), v = .agg #[.int .i64 t.op, .int .i64 t.hd, .int .i64 t.n, .slice a1 (Tm.encL t.args).length c1] ∧ Rep (fun _ => True) W (.slice a1 (Tm.encL t.args).length c1) (.sl 4 (Tm.encL t.args)) := by
  obtain ⟨cs, rfl, _⟩ := okWide_struct Tryz.underlying72 hok
  obtain ⟨n, hn⟩ := h
  obtain ⟨t, a1, c1, e, r1⟩ := rd_Tm n _ _ hn hw
  simp only [Value.cells] at e
  have e : cs = #[.int .i64 t.op, .int .i64 t.hd, .int .i64 t.n, .slice a1 (Tm.encL t.args).length c1] := by rw [← Array.toList_inj, e]
  exact ⟨t, a1, c1, by rw [e], r1⟩

theorem repC_Rw {W : World} {t : Rw} {a1 : Option Addr} {c1 : Nat} (r1 : RepC (fun _ => True) W (.sl 3 (Rw.encL t.args)) [.slice a1 (Rw.encL t.args).length c1]) : RepC (fun _ => True) W t.enc [.int .i64 t.op, .string t.name, .slice a1 (Rw.encL t.args).length c1] := by
  rw [Rw.enc_eq]
  exact ⟨[.int .i64 t.op], _, rfl, rfl, [.string t.name], _, rfl, rfl, [.slice a1 (Rw.encL t.args).length c1], _, rfl, r1, rfl⟩

theorem bz25 : 1 ≤ Tryz.prog.bytesOf 25 := by decide +kernel

theorem rds_Rw (n : Nat) (hel : ∀ m, m < n → ∀ cs x, DataW.trod enc Tryz.prog W 0 (fun _ => true) true m 25 cs = some x → (∀ y ∈ x.1.weights Tryz.prog 25, y ≤ reachBytes) → ∃ t : Rw, RepC (fun _ => True) W t.enc cs)
    {cs : List Value} {x : DataW H × List MemPlace} (h : DataW.trod enc Tryz.prog W 0 (fun _ => true) true n 23 cs = some x) (hw : ∀ y ∈ x.1.weights Tryz.prog 23, y ≤ reachBytes) :
    ∃ (l : List Rw) (a : Option Addr) (c : Nat), cs = [.slice a (Rw.encL l).length c] ∧ RepC (fun _ => True) W (.sl 3 (Rw.encL l)) [.slice a (Rw.encL l).length c] := by
  obtain ⟨l, a, c, e, hr⟩ := read_slice Tryz.underlying23 cz25 (by decide) bz25 Rw.enc n hel h hw
  subst e
  exact ⟨l, a, c, by rw [Rw.encL_length], by rw [Rw.encL_eq, List.length_map]; exact hr⟩

theorem rd_Rw : ∀ (n : Nat) (cs : List Value) (x : DataW H × List MemPlace), DataW.trod enc Tryz.prog W 0 (fun _ => true) true n 25 cs = some x → (∀ y ∈ x.1.weights Tryz.prog 25, y ≤ reachBytes) →
    ∃ (t : Rw) (a1 : Option Addr) (c1 : Nat), cs = [.int .i64 t.op, .string t.name, .slice a1 (Rw.encL t.args).length c1] ∧ RepC (fun _ => True) W (.sl 3 (Rw.encL t.args)) [.slice a1 (Rw.encL t.args).length c1] := by
  intro n
  induction n using Nat.strongRecOn with
  | ind n ih =>
  intro cs x h hw
  obtain ⟨xs, m, rfl, rfl, hl, hlen, hf⟩ := DataW.trod_struct Tryz.underlying25 h
  match xs, hlen with
  | [y0, y1, y2], _ =>
  rw [cz25] at hl
  match cs, hl with
  | [v0, v1, v2], _ =>
  have h0 : DataW.trod enc Tryz.prog W 0 (fun _ => true) true m 3 (([v0, v1, v2].drop 0).take (Tryz.prog.cellsOf 3)) = some y0 := hf 0 _ rfl
  have h1 : DataW.trod enc Tryz.prog W 0 (fun _ => true) true m 9 (([v0, v1, v2].drop 1).take (Tryz.prog.cellsOf 9)) = some y1 := hf 1 _ rfl
  have h2 : DataW.trod enc Tryz.prog W 0 (fun _ => true) true m 23 (([v0, v1, v2].drop 2).take (Tryz.prog.cellsOf 23)) = some y2 := hf 2 _ rfl
  simp only [cz23, cz3, cz9, List.drop_zero, List.drop_succ_cons, List.take_succ_cons, List.take_zero] at h0 h1 h2
  simp only [DataW.weights, Tryz.underlying25, List.map_cons, List.map_nil, DataW.weightsEach, List.append_nil, List.mem_append] at hw
  obtain ⟨f0, e0, _, _⟩ := DataW.trod_int Tryz.underlying3 h0
  obtain ⟨f1, e1, _, _⟩ := DataW.trod_string Tryz.underlying9 h1
  obtain ⟨f2, a1, c1, e2, r1⟩ := rds_Rw m (fun m' hm' cs' x' h' hw' => by
    obtain ⟨t, a1, c1, rfl, r1⟩ := ih m' (by omega) cs' x' h' hw'
    exact ⟨t, repC_Rw r1⟩) h2 (fun y hy => hw y (.inr (.inr hy)))
  simp only [List.cons.injEq, and_true] at e0 e1 e2
  subst e0
  subst e1
  subst e2
  exact ⟨.mk f0 f1 f2, a1, c1, rfl, r1⟩

theorem rdl_Rw (n : Nat) (cs : List Value) (x : DataW H × List MemPlace) (h : DataW.trod enc Tryz.prog W 0 (fun _ => true) true n 23 cs = some x) (hw : ∀ y ∈ x.1.weights Tryz.prog 23, y ≤ reachBytes) :
    ∃ (l : List Rw) (a : Option Addr) (c : Nat), cs = [.slice a (Rw.encL l).length c] ∧ RepC (fun _ => True) W (.sl 3 (Rw.encL l)) [.slice a (Rw.encL l).length c] :=
  rds_Rw n (fun m' _ cs' x' h' hw' => by
    obtain ⟨t, a1, c1, rfl, r1⟩ := rd_Rw m' cs' x' h' hw'
    exact ⟨t, repC_Rw r1⟩) h hw

theorem argl_Rw {base : Nat} {v : Value} {d : DataW H} {p : List MemPlace} (hok : Value.okWide Tryz.prog W .any base 23 v) (h : DataW.Trod enc Tryz.prog W 0 (fun _ => true) true 23 v d p) (hw : ∀ y ∈ d.weights Tryz.prog 23, y ≤ reachBytes) :
    ∃ (l : List Rw) (a : Option Addr) (c : Nat), v = .slice a (Rw.encL l).length c ∧ Rep (fun _ => True) W (.slice a (Rw.encL l).length c) (.sl 3 (Rw.encL l)) := by
  obtain ⟨a0, l0, c0, rfl⟩ := okWide_slice Tryz.underlying23 hok
  obtain ⟨n, hn⟩ := h
  obtain ⟨l, a, c, e, hr⟩ := rdl_Rw n _ _ hn hw
  simp only [Value.cells, List.cons.injEq, and_true] at e
  exact ⟨l, a, c, e, hr⟩

theorem arg_Rw {base : Nat} {v : Value} {d : DataW H} {p : List MemPlace} (hok : Value.okWide Tryz.prog W .any base 25 v) (h : DataW.Trod enc Tryz.prog W 0 (fun _ => true) true 25 v d p) (hw : ∀ y ∈ d.weights Tryz.prog 25, y ≤ reachBytes) :
    ∃ (t : Rw) (a1 : Option Addr) (c1 : Nat), v = .agg #[.int .i64 t.op, .string t.name, .slice a1 (Rw.encL t.args).length c1] ∧ Rep (fun _ => True) W (.slice a1 (Rw.encL t.args).length c1) (.sl 3 (Rw.encL t.args)) := by
  obtain ⟨cs, rfl, _⟩ := okWide_struct Tryz.underlying25 hok
  obtain ⟨n, hn⟩ := h
  obtain ⟨t, a1, c1, e, r1⟩ := rd_Rw n _ _ hn hw
  simp only [Value.cells] at e
  have e : cs = #[.int .i64 t.op, .string t.name, .slice a1 (Rw.encL t.args).length c1] := by rw [← Array.toList_inj, e]
  exact ⟨t, a1, c1, by rw [e], r1⟩

theorem repC_Pt {W : World} {t : Pt} {a1 : Option Addr} {c1 : Nat} {a2 : Option Addr} {c2 : Nat} (r1 : RepC (fun _ => True) W (.sl 3 (Rw.encL t.raw.args)) [.slice a1 (Rw.encL t.raw.args).length c1]) (r2 : RepC (fun _ => True) W (.sl 8 (Pt.encL t.parts)) [.slice a2 (Pt.encL t.parts).length c2]) : RepC (fun _ => True) W t.enc [.int .i64 t.op, .string t.sign, .string t.name, .int .i64 t.n, .int .i64 t.raw.op, .string t.raw.name, .slice a1 (Rw.encL t.raw.args).length c1, .slice a2 (Pt.encL t.parts).length c2] := by
  rw [Pt.enc_eq]
  exact ⟨[.int .i64 t.op], _, rfl, rfl, [.string t.sign], _, rfl, rfl, [.string t.name], _, rfl, rfl, [.int .i64 t.n], _, rfl, rfl, [.int .i64 t.raw.op, .string t.raw.name, .slice a1 (Rw.encL t.raw.args).length c1], _, rfl, ⟨[.int .i64 t.raw.op], _, rfl, rfl, [.string t.raw.name], _, rfl, rfl, [.slice a1 (Rw.encL t.raw.args).length c1], _, rfl, r1, rfl⟩, [.slice a2 (Pt.encL t.parts).length c2], _, rfl, r2, rfl⟩

theorem bz94 : 1 ≤ Tryz.prog.bytesOf 94 := by decide +kernel

theorem rds_Pt (n : Nat) (hel : ∀ m, m < n → ∀ cs x, DataW.trod enc Tryz.prog W 0 (fun _ => true) true m 94 cs = some x → (∀ y ∈ x.1.weights Tryz.prog 94, y ≤ reachBytes) → ∃ t : Pt, RepC (fun _ => True) W t.enc cs)
    {cs : List Value} {x : DataW H × List MemPlace} (h : DataW.trod enc Tryz.prog W 0 (fun _ => true) true n 26 cs = some x) (hw : ∀ y ∈ x.1.weights Tryz.prog 26, y ≤ reachBytes) :
    ∃ (l : List Pt) (a : Option Addr) (c : Nat), cs = [.slice a (Pt.encL l).length c] ∧ RepC (fun _ => True) W (.sl 8 (Pt.encL l)) [.slice a (Pt.encL l).length c] := by
  obtain ⟨l, a, c, e, hr⟩ := read_slice Tryz.underlying26 cz94 (by decide) bz94 Pt.enc n hel h hw
  subst e
  exact ⟨l, a, c, by rw [Pt.encL_length], by rw [Pt.encL_eq, List.length_map]; exact hr⟩

theorem rd_Pt : ∀ (n : Nat) (cs : List Value) (x : DataW H × List MemPlace), DataW.trod enc Tryz.prog W 0 (fun _ => true) true n 94 cs = some x → (∀ y ∈ x.1.weights Tryz.prog 94, y ≤ reachBytes) →
    ∃ (t : Pt) (a1 : Option Addr) (c1 : Nat) (a2 : Option Addr) (c2 : Nat), cs = [.int .i64 t.op, .string t.sign, .string t.name, .int .i64 t.n, .int .i64 t.raw.op, .string t.raw.name, .slice a1 (Rw.encL t.raw.args).length c1, .slice a2 (Pt.encL t.parts).length c2] ∧ RepC (fun _ => True) W (.sl 3 (Rw.encL t.raw.args)) [.slice a1 (Rw.encL t.raw.args).length c1] ∧ RepC (fun _ => True) W (.sl 8 (Pt.encL t.parts)) [.slice a2 (Pt.encL t.parts).length c2] := by
  intro n
  induction n using Nat.strongRecOn with
  | ind n ih =>
  intro cs x h hw
  obtain ⟨xs, m, rfl, rfl, hl, hlen, hf⟩ := DataW.trod_struct Tryz.underlying94 h
  match xs, hlen with
  | [y0, y1, y2, y3, y4, y5], _ =>
  rw [cz94] at hl
  match cs, hl with
  | [v0, v1, v2, v3, v4, v5, v6, v7], _ =>
  have h0 : DataW.trod enc Tryz.prog W 0 (fun _ => true) true m 3 (([v0, v1, v2, v3, v4, v5, v6, v7].drop 0).take (Tryz.prog.cellsOf 3)) = some y0 := hf 0 _ rfl
  have h1 : DataW.trod enc Tryz.prog W 0 (fun _ => true) true m 9 (([v0, v1, v2, v3, v4, v5, v6, v7].drop 1).take (Tryz.prog.cellsOf 9)) = some y1 := hf 1 _ rfl
  have h2 : DataW.trod enc Tryz.prog W 0 (fun _ => true) true m 9 (([v0, v1, v2, v3, v4, v5, v6, v7].drop 2).take (Tryz.prog.cellsOf 9)) = some y2 := hf 2 _ rfl
  have h3 : DataW.trod enc Tryz.prog W 0 (fun _ => true) true m 3 (([v0, v1, v2, v3, v4, v5, v6, v7].drop 3).take (Tryz.prog.cellsOf 3)) = some y3 := hf 3 _ rfl
  have h4 : DataW.trod enc Tryz.prog W 0 (fun _ => true) true m 25 (([v0, v1, v2, v3, v4, v5, v6, v7].drop 4).take (Tryz.prog.cellsOf 25)) = some y4 := hf 4 _ rfl
  have h5 : DataW.trod enc Tryz.prog W 0 (fun _ => true) true m 26 (([v0, v1, v2, v3, v4, v5, v6, v7].drop 7).take (Tryz.prog.cellsOf 26)) = some y5 := hf 5 _ rfl
  simp only [cz25, cz26, cz3, cz9, List.drop_zero, List.drop_succ_cons, List.take_succ_cons, List.take_zero] at h0 h1 h2 h3 h4 h5
  simp only [DataW.weights, Tryz.underlying94, List.map_cons, List.map_nil, DataW.weightsEach, List.append_nil, List.mem_append] at hw
  obtain ⟨f0, e0, _, _⟩ := DataW.trod_int Tryz.underlying3 h0
  obtain ⟨f1, e1, _, _⟩ := DataW.trod_string Tryz.underlying9 h1
  obtain ⟨f2, e2, _, _⟩ := DataW.trod_string Tryz.underlying9 h2
  obtain ⟨f3, e3, _, _⟩ := DataW.trod_int Tryz.underlying3 h3
  obtain ⟨f4, a1, c1, e4, r1⟩ := rd_Rw m _ _ h4 (fun y hy => hw y (.inr (.inr (.inr (.inr (.inl hy))))))
  obtain ⟨f5, a2, c2, e5, r2⟩ := rds_Pt m (fun m' hm' cs' x' h' hw' => by
    obtain ⟨t, a1, c1, a2, c2, rfl, r1, r2⟩ := ih m' (by omega) cs' x' h' hw'
    exact ⟨t, repC_Pt r1 r2⟩) h5 (fun y hy => hw y (.inr (.inr (.inr (.inr (.inr hy))))))
  simp only [List.cons.injEq, and_true] at e0 e1 e2 e3 e4 e5
  subst e0
  subst e1
  subst e2
  subst e3
  obtain ⟨rfl, rfl, rfl⟩ := e4
  subst e5
  exact ⟨.mk f0 f1 f2 f3 f4 f5, a1, c1, a2, c2, rfl, r1, r2⟩

theorem rdl_Pt (n : Nat) (cs : List Value) (x : DataW H × List MemPlace) (h : DataW.trod enc Tryz.prog W 0 (fun _ => true) true n 26 cs = some x) (hw : ∀ y ∈ x.1.weights Tryz.prog 26, y ≤ reachBytes) :
    ∃ (l : List Pt) (a : Option Addr) (c : Nat), cs = [.slice a (Pt.encL l).length c] ∧ RepC (fun _ => True) W (.sl 8 (Pt.encL l)) [.slice a (Pt.encL l).length c] :=
  rds_Pt n (fun m' _ cs' x' h' hw' => by
    obtain ⟨t, a1, c1, a2, c2, rfl, r1, r2⟩ := rd_Pt m' cs' x' h' hw'
    exact ⟨t, repC_Pt r1 r2⟩) h hw

theorem argl_Pt {base : Nat} {v : Value} {d : DataW H} {p : List MemPlace} (hok : Value.okWide Tryz.prog W .any base 26 v) (h : DataW.Trod enc Tryz.prog W 0 (fun _ => true) true 26 v d p) (hw : ∀ y ∈ d.weights Tryz.prog 26, y ≤ reachBytes) :
    ∃ (l : List Pt) (a : Option Addr) (c : Nat), v = .slice a (Pt.encL l).length c ∧ Rep (fun _ => True) W (.slice a (Pt.encL l).length c) (.sl 8 (Pt.encL l)) := by
  obtain ⟨a0, l0, c0, rfl⟩ := okWide_slice Tryz.underlying26 hok
  obtain ⟨n, hn⟩ := h
  obtain ⟨l, a, c, e, hr⟩ := rdl_Pt n _ _ hn hw
  simp only [Value.cells, List.cons.injEq, and_true] at e
  exact ⟨l, a, c, e, hr⟩

theorem arg_Pt {base : Nat} {v : Value} {d : DataW H} {p : List MemPlace} (hok : Value.okWide Tryz.prog W .any base 94 v) (h : DataW.Trod enc Tryz.prog W 0 (fun _ => true) true 94 v d p) (hw : ∀ y ∈ d.weights Tryz.prog 94, y ≤ reachBytes) :
    ∃ (t : Pt) (a1 : Option Addr) (c1 : Nat) (a2 : Option Addr) (c2 : Nat), v = .agg #[.int .i64 t.op, .string t.sign, .string t.name, .int .i64 t.n, .int .i64 t.raw.op, .string t.raw.name, .slice a1 (Rw.encL t.raw.args).length c1, .slice a2 (Pt.encL t.parts).length c2] ∧ Rep (fun _ => True) W (.slice a1 (Rw.encL t.raw.args).length c1) (.sl 3 (Rw.encL t.raw.args)) ∧ Rep (fun _ => True) W (.slice a2 (Pt.encL t.parts).length c2) (.sl 8 (Pt.encL t.parts)) := by
  obtain ⟨cs, rfl, _⟩ := okWide_struct Tryz.underlying94 hok
  obtain ⟨n, hn⟩ := h
  obtain ⟨t, a1, c1, a2, c2, e, r1, r2⟩ := rd_Pt n _ _ hn hw
  simp only [Value.cells] at e
  have e : cs = #[.int .i64 t.op, .string t.sign, .string t.name, .int .i64 t.n, .int .i64 t.raw.op, .string t.raw.name, .slice a1 (Rw.encL t.raw.args).length c1, .slice a2 (Pt.encL t.parts).length c2] := by rw [← Array.toList_inj, e]
  exact ⟨t, a1, c1, a2, c2, by rw [e], r1, r2⟩

theorem rd_It : ∀ (n : Nat) (cs : List Value) (x : DataW H × List MemPlace), DataW.trod enc Tryz.prog W 0 (fun _ => true) true n 28 cs = some x → (∀ y ∈ x.1.weights Tryz.prog 28, y ≤ reachBytes) →
    ∃ (t : It) (a1 : Option Addr) (c1 : Nat) (a2 : Option Addr) (c2 : Nat), cs = [.string t.word, .string t.name, .int .i64 t.raw.op, .string t.raw.name, .slice a1 (Rw.encL t.raw.args).length c1, .slice a2 (Pt.encL t.parts).length c2] ∧ RepC (fun _ => True) W (.sl 3 (Rw.encL t.raw.args)) [.slice a1 (Rw.encL t.raw.args).length c1] ∧ RepC (fun _ => True) W (.sl 8 (Pt.encL t.parts)) [.slice a2 (Pt.encL t.parts).length c2] := by
  intro n
  intro cs x h hw
  obtain ⟨xs, m, rfl, rfl, hl, hlen, hf⟩ := DataW.trod_struct Tryz.underlying28 h
  match xs, hlen with
  | [y0, y1, y2, y3], _ =>
  rw [cz28] at hl
  match cs, hl with
  | [v0, v1, v2, v3, v4, v5], _ =>
  have h0 : DataW.trod enc Tryz.prog W 0 (fun _ => true) true m 9 (([v0, v1, v2, v3, v4, v5].drop 0).take (Tryz.prog.cellsOf 9)) = some y0 := hf 0 _ rfl
  have h1 : DataW.trod enc Tryz.prog W 0 (fun _ => true) true m 9 (([v0, v1, v2, v3, v4, v5].drop 1).take (Tryz.prog.cellsOf 9)) = some y1 := hf 1 _ rfl
  have h2 : DataW.trod enc Tryz.prog W 0 (fun _ => true) true m 25 (([v0, v1, v2, v3, v4, v5].drop 2).take (Tryz.prog.cellsOf 25)) = some y2 := hf 2 _ rfl
  have h3 : DataW.trod enc Tryz.prog W 0 (fun _ => true) true m 26 (([v0, v1, v2, v3, v4, v5].drop 5).take (Tryz.prog.cellsOf 26)) = some y3 := hf 3 _ rfl
  simp only [cz25, cz26, cz9, List.drop_zero, List.drop_succ_cons, List.take_succ_cons, List.take_zero] at h0 h1 h2 h3
  simp only [DataW.weights, Tryz.underlying28, List.map_cons, List.map_nil, DataW.weightsEach, List.append_nil, List.mem_append] at hw
  obtain ⟨f0, e0, _, _⟩ := DataW.trod_string Tryz.underlying9 h0
  obtain ⟨f1, e1, _, _⟩ := DataW.trod_string Tryz.underlying9 h1
  obtain ⟨f2, a1, c1, e2, r1⟩ := rd_Rw m _ _ h2 (fun y hy => hw y (.inr (.inr (.inl hy))))
  obtain ⟨f3, a2, c2, e3, r2⟩ := rdl_Pt m _ _ h3 (fun y hy => hw y (.inr (.inr (.inr hy))))
  simp only [List.cons.injEq, and_true] at e0 e1 e2 e3
  subst e0
  subst e1
  obtain ⟨rfl, rfl, rfl⟩ := e2
  subst e3
  exact ⟨.mk f0 f1 f2 f3, a1, c1, a2, c2, rfl, r1, r2⟩

theorem arg_It {base : Nat} {v : Value} {d : DataW H} {p : List MemPlace} (hok : Value.okWide Tryz.prog W .any base 28 v) (h : DataW.Trod enc Tryz.prog W 0 (fun _ => true) true 28 v d p) (hw : ∀ y ∈ d.weights Tryz.prog 28, y ≤ reachBytes) :
    ∃ (t : It) (a1 : Option Addr) (c1 : Nat) (a2 : Option Addr) (c2 : Nat), v = .agg #[.string t.word, .string t.name, .int .i64 t.raw.op, .string t.raw.name, .slice a1 (Rw.encL t.raw.args).length c1, .slice a2 (Pt.encL t.parts).length c2] ∧ Rep (fun _ => True) W (.slice a1 (Rw.encL t.raw.args).length c1) (.sl 3 (Rw.encL t.raw.args)) ∧ Rep (fun _ => True) W (.slice a2 (Pt.encL t.parts).length c2) (.sl 8 (Pt.encL t.parts)) := by
  obtain ⟨cs, rfl, _⟩ := okWide_struct Tryz.underlying28 hok
  obtain ⟨n, hn⟩ := h
  obtain ⟨t, a1, c1, a2, c2, e, r1, r2⟩ := rd_It n _ _ hn hw
  simp only [Value.cells] at e
  have e : cs = #[.string t.word, .string t.name, .int .i64 t.raw.op, .string t.raw.name, .slice a1 (Rw.encL t.raw.args).length c1, .slice a2 (Pt.encL t.parts).length c2] := by rw [← Array.toList_inj, e]
  exact ⟨t, a1, c1, a2, c2, by rw [e], r1, r2⟩

theorem repC_Dc {W : World} {t : Dc} {a1 : Option Addr} {c1 : Nat} (r1 : RepC (fun _ => True) W (.sl 4 (Tm.encL t.cls.args)) [.slice a1 (Tm.encL t.cls.args).length c1]) : RepC (fun _ => True) W t.enc [.string t.name, .int .i64 t.cls.op, .int .i64 t.cls.hd, .int .i64 t.cls.n, .slice a1 (Tm.encL t.cls.args).length c1, .int .i64 t.implicit] := by
  rw [Dc.enc_eq]
  exact ⟨[.string t.name], _, rfl, rfl, [.int .i64 t.cls.op, .int .i64 t.cls.hd, .int .i64 t.cls.n, .slice a1 (Tm.encL t.cls.args).length c1], _, rfl, ⟨[.int .i64 t.cls.op], _, rfl, rfl, [.int .i64 t.cls.hd], _, rfl, rfl, [.int .i64 t.cls.n], _, rfl, rfl, [.slice a1 (Tm.encL t.cls.args).length c1], _, rfl, r1, rfl⟩, [.int .i64 t.implicit], _, rfl, rfl, rfl⟩

theorem bz74 : 1 ≤ Tryz.prog.bytesOf 74 := by decide +kernel

theorem rds_Dc (n : Nat) (hel : ∀ m, m < n → ∀ cs x, DataW.trod enc Tryz.prog W 0 (fun _ => true) true m 74 cs = some x → (∀ y ∈ x.1.weights Tryz.prog 74, y ≤ reachBytes) → ∃ t : Dc, RepC (fun _ => True) W t.enc cs)
    {cs : List Value} {x : DataW H × List MemPlace} (h : DataW.trod enc Tryz.prog W 0 (fun _ => true) true n 22 cs = some x) (hw : ∀ y ∈ x.1.weights Tryz.prog 22, y ≤ reachBytes) :
    ∃ (l : List Dc) (a : Option Addr) (c : Nat), cs = [.slice a (Dc.encL l).length c] ∧ RepC (fun _ => True) W (.sl 6 (Dc.encL l)) [.slice a (Dc.encL l).length c] := by
  obtain ⟨l, a, c, e, hr⟩ := read_slice Tryz.underlying22 cz74 (by decide) bz74 Dc.enc n hel h hw
  subst e
  exact ⟨l, a, c, by rw [Dc.encL_length], by rw [Dc.encL_eq, List.length_map]; exact hr⟩

theorem rd_Dc : ∀ (n : Nat) (cs : List Value) (x : DataW H × List MemPlace), DataW.trod enc Tryz.prog W 0 (fun _ => true) true n 74 cs = some x → (∀ y ∈ x.1.weights Tryz.prog 74, y ≤ reachBytes) →
    ∃ (t : Dc) (a1 : Option Addr) (c1 : Nat), cs = [.string t.name, .int .i64 t.cls.op, .int .i64 t.cls.hd, .int .i64 t.cls.n, .slice a1 (Tm.encL t.cls.args).length c1, .int .i64 t.implicit] ∧ RepC (fun _ => True) W (.sl 4 (Tm.encL t.cls.args)) [.slice a1 (Tm.encL t.cls.args).length c1] := by
  intro n
  intro cs x h hw
  obtain ⟨xs, m, rfl, rfl, hl, hlen, hf⟩ := DataW.trod_struct Tryz.underlying74 h
  match xs, hlen with
  | [y0, y1, y2], _ =>
  rw [cz74] at hl
  match cs, hl with
  | [v0, v1, v2, v3, v4, v5], _ =>
  have h0 : DataW.trod enc Tryz.prog W 0 (fun _ => true) true m 9 (([v0, v1, v2, v3, v4, v5].drop 0).take (Tryz.prog.cellsOf 9)) = some y0 := hf 0 _ rfl
  have h1 : DataW.trod enc Tryz.prog W 0 (fun _ => true) true m 72 (([v0, v1, v2, v3, v4, v5].drop 1).take (Tryz.prog.cellsOf 72)) = some y1 := hf 1 _ rfl
  have h2 : DataW.trod enc Tryz.prog W 0 (fun _ => true) true m 3 (([v0, v1, v2, v3, v4, v5].drop 5).take (Tryz.prog.cellsOf 3)) = some y2 := hf 2 _ rfl
  simp only [cz3, cz72, cz9, List.drop_zero, List.drop_succ_cons, List.take_succ_cons, List.take_zero] at h0 h1 h2
  simp only [DataW.weights, Tryz.underlying74, List.map_cons, List.map_nil, DataW.weightsEach, List.append_nil, List.mem_append] at hw
  obtain ⟨f0, e0, _, _⟩ := DataW.trod_string Tryz.underlying9 h0
  obtain ⟨f1, a1, c1, e1, r1⟩ := rd_Tm m _ _ h1 (fun y hy => hw y (.inr (.inl hy)))
  obtain ⟨f2, e2, _, _⟩ := DataW.trod_int Tryz.underlying3 h2
  simp only [List.cons.injEq, and_true] at e0 e1 e2
  subst e0
  obtain ⟨rfl, rfl, rfl, rfl⟩ := e1
  subst e2
  exact ⟨.mk f0 f1 f2, a1, c1, rfl, r1⟩

theorem rdl_Dc (n : Nat) (cs : List Value) (x : DataW H × List MemPlace) (h : DataW.trod enc Tryz.prog W 0 (fun _ => true) true n 22 cs = some x) (hw : ∀ y ∈ x.1.weights Tryz.prog 22, y ≤ reachBytes) :
    ∃ (l : List Dc) (a : Option Addr) (c : Nat), cs = [.slice a (Dc.encL l).length c] ∧ RepC (fun _ => True) W (.sl 6 (Dc.encL l)) [.slice a (Dc.encL l).length c] :=
  rds_Dc n (fun m' _ cs' x' h' hw' => by
    obtain ⟨t, a1, c1, rfl, r1⟩ := rd_Dc m' cs' x' h' hw'
    exact ⟨t, repC_Dc r1⟩) h hw

theorem argl_Dc {base : Nat} {v : Value} {d : DataW H} {p : List MemPlace} (hok : Value.okWide Tryz.prog W .any base 22 v) (h : DataW.Trod enc Tryz.prog W 0 (fun _ => true) true 22 v d p) (hw : ∀ y ∈ d.weights Tryz.prog 22, y ≤ reachBytes) :
    ∃ (l : List Dc) (a : Option Addr) (c : Nat), v = .slice a (Dc.encL l).length c ∧ Rep (fun _ => True) W (.slice a (Dc.encL l).length c) (.sl 6 (Dc.encL l)) := by
  obtain ⟨a0, l0, c0, rfl⟩ := okWide_slice Tryz.underlying22 hok
  obtain ⟨n, hn⟩ := h
  obtain ⟨l, a, c, e, hr⟩ := rdl_Dc n _ _ hn hw
  simp only [Value.cells, List.cons.injEq, and_true] at e
  exact ⟨l, a, c, e, hr⟩

theorem arg_Dc {base : Nat} {v : Value} {d : DataW H} {p : List MemPlace} (hok : Value.okWide Tryz.prog W .any base 74 v) (h : DataW.Trod enc Tryz.prog W 0 (fun _ => true) true 74 v d p) (hw : ∀ y ∈ d.weights Tryz.prog 74, y ≤ reachBytes) :
    ∃ (t : Dc) (a1 : Option Addr) (c1 : Nat), v = .agg #[.string t.name, .int .i64 t.cls.op, .int .i64 t.cls.hd, .int .i64 t.cls.n, .slice a1 (Tm.encL t.cls.args).length c1, .int .i64 t.implicit] ∧ Rep (fun _ => True) W (.slice a1 (Tm.encL t.cls.args).length c1) (.sl 4 (Tm.encL t.cls.args)) := by
  obtain ⟨cs, rfl, _⟩ := okWide_struct Tryz.underlying74 hok
  obtain ⟨n, hn⟩ := h
  obtain ⟨t, a1, c1, e, r1⟩ := rd_Dc n _ _ hn hw
  simp only [Value.cells] at e
  have e : cs = #[.string t.name, .int .i64 t.cls.op, .int .i64 t.cls.hd, .int .i64 t.cls.n, .slice a1 (Tm.encL t.cls.args).length c1, .int .i64 t.implicit] := by rw [← Array.toList_inj, e]
  exact ⟨t, a1, c1, by rw [e], r1⟩
end
end Go.Proofs.YtnolnmfpmhpapaaGreat
end

/-! EvA -/
section
namespace Go.Proofs.YtnolnmfpmhpapaaGreat
open Go.Tr Go
set_option linter.unusedVariables false

theorem wrapS {i : Nat} (h : i < 2000000000000000000) : IntKind.i64.wrap ((i : Int) + 1) = ((i + 1 : Nat) : Int) := by
  rw [wrap_i64 (by omega) (by omega)]; omega

/-- f yields something, given fuel enough. -/
def Tot {α : Type} (f : Nat → Option α) : Prop := ∃ r, Ev f r
theorem Ev.tot {α : Type} {f : Nat → Option α} {r : α} (h : Ev f r) : Tot f := ⟨r, h⟩
theorem Ev.unique {α : Type} {f : Nat → Option α} {r r' : α} (h : Ev f r) (h' : Ev f r') : r = r' := by
  obtain ⟨N, h⟩ := h
  obtain ⟨M, h'⟩ := h'
  have e1 := h (max N M) (by omega)
  have e2 := h' (max N M) (by omega)
  rw [e1] at e2
  exact Option.some.inj e2

/-- f yields something of which p holds. -/
def Yields {α : Type} (f : Nat → Option α) (p : α → Prop) : Prop := ∃ r, Ev f r ∧ p r
theorem Yields.succ {α : Type} {f g : Nat → Option α} {p : α → Prop} (hf : ∀ n, f (n + 1) = g n) (h : Yields g p) : Yields f p := by
  obtain ⟨r, h1, h2⟩ := h; exact ⟨r, h1.succ hf, h2⟩
theorem Yields.bind {α β : Type} {f : Nat → Option α} {g : Nat → α → Option β} {q : α → Prop} {p : β → Prop} (h : Yields f q) (k : ∀ x, q x → Yields (fun n => g n x) p) : Yields (fun n => (f n).bind (g n)) p := by
  obtain ⟨x, h1, h2⟩ := h
  obtain ⟨r, h3, h4⟩ := k x h2
  exact ⟨r, h1.bind h3, h4⟩
theorem Yields.pure {α : Type} {p : α → Prop} {r : α} (h : p r) : Yields (fun _ => some r) p := ⟨r, Ev.pure r, h⟩
theorem Yields.ite {α : Type} {b : Bool} {f g : Nat → Option α} {p : α → Prop} (h : b = true → Yields f p) (k : b = false → Yields g p) : Yields (fun n => cond b (f n) (g n)) p := by
  cases b with
  | true => exact h rfl
  | false => exact k rfl
theorem Yields.need {α : Type} {b : Bool} {f : Nat → Option α} {p : α → Prop} (hb : b = true) (h : Yields f p) : Yields (fun n => cond b (f n) none) p := by
  subst hb; exact h
theorem Yields.some {α β : Type} {o : Option α} {x : α} {g : Nat → α → Option β} {p : β → Prop} (ho : o = Option.some x) (k : Yields (fun n => g n x) p) : Yields (fun n => o.bind (g n)) p := by
  subst ho; exact k
theorem Yields.mono {α : Type} {f : Nat → Option α} {p q : α → Prop} (h : Yields f p) (k : ∀ r, p r → q r) : Yields f q := by
  obtain ⟨r, h1, h2⟩ := h; exact ⟨r, h1, k r h2⟩
theorem Ev.yields {α : Type} {f : Nat → Option α} {r : α} {p : α → Prop} (h : Ev f r) (hp : p r) : Yields f p := ⟨r, h, hp⟩
theorem Yields.ev {α : Type} {f : Nat → Option α} {r : α} (h : Yields f (· = r)) : Ev f r := by
  obtain ⟨r', h1, rfl⟩ := h; exact h1
theorem Ev.is {α : Type} {f : Nat → Option α} {r : α} (h : Ev f r) : Yields f (· = r) := ⟨r, h, rfl⟩

theorem Ev.some {α β : Type} {o : Option α} {x : α} {g : Nat → α → Option β} {r : β} (ho : o = Option.some x) (k : Ev (fun n => g n x) r) : Ev (fun n => o.bind (g n)) r := by
  subst ho; exact k
theorem Ev.need {α : Type} {b : Bool} {f : Nat → Option α} {r : α} (hb : b = true) (h : Ev f r) : Ev (fun n => cond b (f n) none) r := by
  subst hb; exact h

theorem idx_get {α : Type} {l : List α} {i : Nat} {x : α} (h : l[i]? = Option.some x) : idx l (i : Int) = Option.some x := by rw [idx_nat, h]
theorem idx_get0 {α : Type} {x : α} {l : List α} : idx (x :: l) 0 = Option.some x := rfl
theorem idx_get1 {α : Type} {x y : α} {l : List α} : idx (x :: y :: l) 1 = Option.some y := rfl

end Go.Proofs.YtnolnmfpmhpapaaGreat
end

/-! Awake -/
section
namespace Go.Proofs.YtnolnmfpmhpapaaGreat
open Go.Tr Go
set_option maxRecDepth 10000

def tmX : Tm := .mk 4 1 0 []
def tmC : Tm := .mk 4 2 2 [tmX]

theorem cmpXC : compareE 1 0 tmX tmC = (2, 0) := by rw [compareE_eq]; decide +kernel
theorem cmpCC : compareE 1 0 tmC tmC = (1, 0) := by rw [compareE_eq]; decide +kernel
theorem cmpCX : compareE 1 0 tmC tmX = (0, 0) := by rw [compareE_eq]; decide +kernel

theorem awake_spec : Pure Tryz.prog (fnS 14) [] [] (fun r out => r = bS true ∧ out = []) := by
  refine Meets.nilRep 3 ?_
  refine Meets.nilRep 4 ?_
  refine spec_of_body (N := 59) (m := 0) (dt := fun _ => none) [] ttOK Tryz.func14 rfl Tryz.call14 Tryz.ntmps14 rfl rfl rfl mixed (by kernel_rfl) ?_
  refine (app_spec 1 0 [] none 0).at (by simp) rfl rfl ?_
  rintro r out ⟨rfl, rfl⟩
  refine at_build ttOK 48 [tmX.enc] rfl (by kernel_rfl) ⟨⟨rfl, rfl, rfl, RepS_tm (t := tmX) (a := none) (c := 0) (List.mem_cons_self ..)⟩, trivial⟩ rfl (by decide) (by decide) ?_
  intro a
  refine (app_spec 2 2 [tmX] a 1).at (by simp) rfl rfl ?_
  rintro r out ⟨rfl, rfl⟩
  refine (Compare_spec 1 0 tmX tmC none a 0 1).at ?_ rfl rfl ?_
  · intro p hp
    simp only [List.mem_cons, List.not_mem_nil, or_false] at hp
    rcases hp with rfl | rfl
    · exact List.mem_cons_self ..
    · exact List.mem_cons_of_mem _ (List.mem_cons_of_mem _ (List.mem_cons_self ..))
  rw [cmpXC]
  rintro r out ⟨rfl, rfl⟩
  refine (Compare_spec 1 0 tmC tmC a a 1 1).at ?_ rfl rfl ?_
  · intro p hp
    simp only [List.mem_cons, List.not_mem_nil, or_false] at hp
    rcases hp with rfl | rfl
    · exact List.mem_cons_of_mem _ (List.mem_cons_of_mem _ (List.mem_cons_self ..))
    · exact List.mem_cons_of_mem _ (List.mem_cons_of_mem _ (List.mem_cons_self ..))
  rw [cmpCC]
  rintro r out ⟨rfl, rfl⟩
  refine (Compare_spec 1 0 tmC tmX a none 1 0).at ?_ rfl rfl ?_
  · intro p hp
    simp only [List.mem_cons, List.not_mem_nil, or_false] at hp
    rcases hp with rfl | rfl
    · exact List.mem_cons_of_mem _ (List.mem_cons_of_mem _ (List.mem_cons_self ..))
    · exact List.mem_cons_self ..
  rw [cmpCX]
  rintro r out ⟨rfl, rfl⟩
  refine AtGuard.mk (fun _ => ?_) (fun h => by cases h)
  refine (similar_spec (.mk 1 0 []) (.mk 1 3 []) none none 0 0).at ?_ rfl rfl ?_
  · intro p hp
    simp only [List.mem_cons, List.not_mem_nil, or_false] at hp
    rcases hp with rfl | rfl
    · exact List.mem_cons_of_mem _ (List.mem_cons_self ..)
    · exact List.mem_cons_of_mem _ (List.mem_cons_self ..)
  rintro r out ⟨rfl, rfl⟩
  refine AtIf.mk (fun h => by cases h) (fun _ => ?_)
  exact AtRet.pure [] rfl (by simp) ⟨rfl, rfl⟩

end Go.Proofs.YtnolnmfpmhpapaaGreat
end

/-! Reverse -/
section
namespace Go.Proofs.YtnolnmfpmhpapaaGreat
open Go.Tr Go
set_option maxRecDepth 10000
set_option linter.unusedVariables false

theorem reverse_spec (l : List ByteArray) (N : Nat) (a : Option Addr) (c : Nat) (hN : N = l.length) (hlen : l.length ≤ 1000000) : Meets Tryz.prog (fnS 117) [.v (.slice a N c)] ⟨[], [⟨.slice a N c, 1, 9, List.map D.str l⟩], []⟩
    (fun o S' => o = .ret (.tup []) ∧ S' = ⟨[], [⟨.slice a N c, 1, 9, List.map D.str l.reverse⟩], []⟩) := by
  refine spec_of_body (N := 28) (m := 0) (dt := drawsOf [(3, .node [0, 1, 2, 3, 4, 5, 6, 8, 9, 10] [(7, .node [] [(11, .node [12] [(13, .node [14] [(15, .leaf [])])])]), (11, .node [] [(7, .node [12] [(13, .node [14] [(15, .leaf [])])])])], [15], [])]) [] ttOK Tryz.func117 rfl Tryz.call117 Tryz.ntmps117 rfl rfl rfl mixed (by kernel_rfl) ?_
  have hw0 : IntKind.i64.wrap ((N : Int) - 1) = (N : Int) - 1 - ((0 : Nat) : Int) := by rw [wrap_i64 (by omega) (by omega)]; simp
  refine AtLoop.mk ⟨List ByteArray × Nat, fun x => [(0, .v (.slice a N c)), (2, iS x.2), (3, iS ((N : Int) - 1 - x.2))], fun x => ⟨[], [⟨.slice a N c, 1, 9, List.map D.str x.1⟩], []⟩,
    fun x => x.1.length = N ∧ 2 * x.2 ≤ N + 1 ∧ ∀ m, m < N → x.1[m]? = if m < x.2 ∨ N ≤ m + x.2 then l[N - 1 - m]? else l[m]?, fun x => N - x.2, (l, 0), ⟨hN.symm, by simp only; omega, fun m hm => by simp only; rw [if_neg (by omega)]⟩, ⟨rfl, rfl, by rw [← hw0]; rfl, trivial⟩, StLe.refl _, fun x _ => ⟨rfl, rfl⟩, ?_⟩
  rintro ⟨cur, k⟩ ⟨hl, hk, hinv⟩
  simp only at hl hk hinv
  refine AtIf.mk (fun h1 => ?_) (fun h1 => ?_)
  · simp only [decide_eq_true_eq] at h1
    obtain ⟨x, hx⟩ : ∃ x, cur[((N : Int) - 1 - k).toNat]? = some x := ⟨_, List.getElem?_eq_getElem (by omega)⟩
    obtain ⟨y, hy⟩ : ∃ y, cur[(k : Int).toNat]? = some y := ⟨_, List.getElem?_eq_getElem (by omega)⟩
    have hj : decide (0 ≤ (N : Int) - 1 - k ∧ ((N : Int) - 1 - k).toNat < (List.map D.str cur).length) = true := by simp; omega
    have hi : decide (0 ≤ (k : Int) ∧ ((k : Int)).toNat < (List.map D.str cur).length) = true := by simp; omega
    have hj2 : decide (0 ≤ (N : Int) - 1 - k ∧ ((N : Int) - 1 - k).toNat < (List.map D.str (cur.set (k : Int).toNat x)).length) = true := by simp; omega
    have hback : ∀ b : Nat, ∃ x', (fun x : List ByteArray × Nat => x.1.length = N ∧ 2 * x.2 ≤ N + 1 ∧ ∀ m, m < N → x.1[m]? = if m < x.2 ∨ N ≤ m + x.2 then l[N - 1 - m]? else l[m]?) x' ∧ x' = (((cur.set (k : Int).toNat x).set ((N : Int) - 1 - k).toNat y), k + 1) := by
      intro b
      refine ⟨_, ⟨by simp [hl], by simp only; omega, fun m hm => ?_⟩, rfl⟩
      simp only
      have e1 : (k : Int).toNat = k := by omega
      have e2 : ((N : Int) - 1 - k).toNat = N - 1 - k := by omega
      rw [e1] at hy ⊢
      rw [e2] at hx ⊢
      rw [hinv _ (by omega), if_neg (by omega)] at hx hy
      rw [List.getElem?_set, List.length_set, hl]
      by_cases hm1 : N - 1 - k = m
      · subst hm1
        rw [if_pos rfl, if_pos (by omega), if_pos (by omega)]
        have e3 : N - 1 - (N - 1 - k) = k := by omega
        rw [e3, hy]
      · rw [if_neg hm1, List.getElem?_set, hl]
        by_cases hm2 : k = m
        · subst hm2
          rw [if_pos rfl, if_pos (by omega), if_pos (by omega), hx]
        · rw [if_neg hm2, hinv m hm]
          by_cases hc : m < k ∨ N ≤ m + k
          · rw [if_pos hc, if_pos (by omega)]
          · rw [if_neg hc, if_neg (by omega)]
    have hw1 : IntKind.i64.wrap ((k : Int) + 1) = ((k + 1 : Nat) : Int) := wrap_i64 (by omega) (by omega)
    have hw2 : IntKind.i64.wrap ((N : Int) - 1 - k - 1) = (N : Int) - 1 - ((k + 1 : Nat) : Int) := by rw [wrap_i64 (by omega) (by omega)]; omega
    refine at_index_accG ttOK 0 rfl rfl rfl rfl hj ?_
    intro b hb
    subst hb
    refine at_index_accG ttOK 0 rfl rfl rfl rfl hi ?_
    intro b2 hb2
    obtain rfl : b = b2 := by injection hb2 with h; injection h
    clear hb2
    obtain ⟨x', hx', rfl⟩ := hback b
    refine ⟨?_, ?_⟩
    · refine at_load_accG ttOK 0 rfl (map_get D.str hx) rfl (.inr rfl) rfl ?_
      refine ⟨fun _ _ h => h, ?_⟩
      refine at_load_accG ttOK 0 rfl (map_get D.str hy) rfl (.inr rfl) rfl ?_
      refine ⟨fun _ _ h => h, ?_⟩
      refine at_index_accG ttOK 0 rfl rfl rfl rfl hi ?_
      intro b2 hb2
      obtain rfl : b = b2 := by injection hb2 with h; injection h
      refine at_store_accG (ds' := List.map D.str (cur.set (k : Int).toNat x)) ttOK 0 rfl (of_decide_eq_true hi).2 rfl (.inr rfl) rfl rfl (map_set' ..) ?_
      refine ⟨fun _ _ h => h, ?_⟩
      refine at_index_accG ttOK 0 rfl rfl rfl rfl hj2 ?_
      intro b2 hb2
      obtain rfl : b = b2 := by injection hb2 with h; injection h
      refine at_store_accG (ds' := List.map D.str ((cur.set (k : Int).toNat x).set ((N : Int) - 1 - k).toNat y)) ttOK 0 rfl (of_decide_eq_true hj2).2 rfl (.inr rfl) rfl rfl (map_set' ..) ?_
      exact ⟨_, hx', by simp only; omega, ⟨rfl, by rw [← hw1]; rfl, by rw [← hw2]; rfl, trivial⟩, StLe.refl _⟩
    · refine at_load_accG ttOK 0 rfl (map_get D.str hy) rfl (.inr rfl) rfl ?_
      refine ⟨fun _ _ h => h, ?_⟩
      refine at_load_accG ttOK 0 rfl (map_get D.str hx) rfl (.inr rfl) rfl ?_
      refine ⟨fun _ _ h => h, ?_⟩
      refine at_index_accG ttOK 0 rfl rfl rfl rfl hi ?_
      intro b2 hb2
      obtain rfl : b = b2 := by injection hb2 with h; injection h
      refine at_store_accG (ds' := List.map D.str (cur.set (k : Int).toNat x)) ttOK 0 rfl (of_decide_eq_true hi).2 rfl (.inr rfl) rfl rfl (map_set' ..) ?_
      refine ⟨fun _ _ h => h, ?_⟩
      refine at_index_accG ttOK 0 rfl rfl rfl rfl hj2 ?_
      intro b2 hb2
      obtain rfl : b = b2 := by injection hb2 with h; injection h
      refine at_store_accG (ds' := List.map D.str ((cur.set (k : Int).toNat x).set ((N : Int) - 1 - k).toNat y)) ttOK 0 rfl (of_decide_eq_true hj2).2 rfl (.inr rfl) rfl rfl (map_set' ..) ?_
      exact ⟨_, hx', by simp only; omega, ⟨rfl, by rw [← hw1]; rfl, by rw [← hw2]; rfl, trivial⟩, StLe.refl _⟩
  · simp only [decide_eq_false_iff_not] at h1
    have hrev : cur = l.reverse := by
      apply List.ext_getElem?
      intro m
      rcases Nat.lt_or_ge m N with hm | hm
      · rw [hinv m hm, List.getElem?_reverse (by omega), ← hN]
        by_cases hc : m < k ∨ N ≤ m + k
        · rw [if_pos hc]
        · rw [if_neg hc]; congr 1; omega
      · rw [List.getElem?_eq_none (by omega), List.getElem?_eq_none (by simp; omega)]
    subst hrev
    exact AtRet.gen ⟨[], [⟨.slice a N c, 1, 9, List.map D.str l.reverse⟩], []⟩ (StLe.refl _) rfl rfl ⟨rfl, rfl⟩
end Go.Proofs.YtnolnmfpmhpapaaGreat
end
