/- Merged texts: Rd1 EvA. How arguments of struct types read (written by gen_read.py). Condition: each slice that is met weighs no more than the form's own reach. Plain law: functions with fuel that yield what is said of them; loops over lists; what is known of short lists. No program in sight. -/
import Derived.Test.YtnolnmfpmhpapaaGreatDoorQI
/-! Rd1 -/
section
namespace Go.Proofs.YtnolnmfpmhpapaaGreatDoor
open Go.Tr Go
open Go.ChangeShapes Go.WideShapes Go.ChangeAt Go.RowKit
set_option maxRecDepth 10000
set_option linter.unusedVariables false

theorem cz3 : Tryz.prog.cellsOf 3 = 1 := by kernel_rfl
theorem cz4 : Tryz.prog.cellsOf 4 = 1 := by kernel_rfl
theorem cz9 : Tryz.prog.cellsOf 9 = 1 := by kernel_rfl
theorem cz22 : Tryz.prog.cellsOf 22 = 1 := by kernel_rfl
theorem cz51 : Tryz.prog.cellsOf 51 = 1 := by kernel_rfl
theorem cz52 : Tryz.prog.cellsOf 52 = 1 := by kernel_rfl
theorem cz54 : Tryz.prog.cellsOf 54 = 4 := by kernel_rfl
theorem cz56 : Tryz.prog.cellsOf 56 = 7 := by kernel_rfl
theorem cz74 : Tryz.prog.cellsOf 74 = 6 := by kernel_rfl
theorem cz134 : Tryz.prog.cellsOf 134 = 10 := by kernel_rfl

section
variable {H : Type} {enc : TypeId × Value → H} {W : World}

theorem repC_Tm {W : World} {t : Tm} {a1 : Option Addr} {c1 : Nat} (r1 : RepC (fun _ => True) W (.sl 4 (Tm.encL t.args)) [.slice a1 (Tm.encL t.args).length c1]) : RepC (fun _ => True) W t.enc [.int .i64 t.op, .int .i64 t.hd, .int .i64 t.n, .slice a1 (Tm.encL t.args).length c1] := by
  rw [Tm.enc_eq]
  exact ⟨[.int .i64 t.op], _, rfl, rfl, [.int .i64 t.hd], _, rfl, rfl, [.int .i64 t.n], _, rfl, rfl, [.slice a1 (Tm.encL t.args).length c1], _, rfl, r1, rfl⟩

theorem bz54 : 1 ≤ Tryz.prog.bytesOf 54 := by decide +kernel

theorem rds_Tm (n : Nat) (hel : ∀ m, m < n → ∀ cs x, DataW.trod enc Tryz.prog W 0 (fun _ => true) true m 54 cs = some x → (∀ y ∈ x.1.weights Tryz.prog 54, y ≤ reachBytes) → ∃ t : Tm, RepC (fun _ => True) W t.enc cs)
    {cs : List Value} {x : DataW H × List MemPlace} (h : DataW.trod enc Tryz.prog W 0 (fun _ => true) true n 52 cs = some x) (hw : ∀ y ∈ x.1.weights Tryz.prog 52, y ≤ reachBytes) :
    ∃ (l : List Tm) (a : Option Addr) (c : Nat), cs = [.slice a (Tm.encL l).length c] ∧ RepC (fun _ => True) W (.sl 4 (Tm.encL l)) [.slice a (Tm.encL l).length c] := by
  obtain ⟨l, a, c, e, hr⟩ := read_slice Tryz.underlying52 cz54 (by decide) bz54 Tm.enc n hel h hw
  subst e
  exact ⟨l, a, c, by rw [Tm.encL_length], by rw [Tm.encL_eq, List.length_map]; exact hr⟩

theorem rd_Tm : ∀ (n : Nat) (cs : List Value) (x : DataW H × List MemPlace), DataW.trod enc Tryz.prog W 0 (fun _ => true) true n 54 cs = some x → (∀ y ∈ x.1.weights Tryz.prog 54, y ≤ reachBytes) →
    ∃ (t : Tm) (a1 : Option Addr) (c1 : Nat), cs = [.int .i64 t.op, .int .i64 t.hd, .int .i64 t.n, .slice a1 (Tm.encL t.args).length c1] ∧ RepC (fun _ => True) W (.sl 4 (Tm.encL t.args)) [.slice a1 (Tm.encL t.args).length c1] := by
  intro n
  induction n using Nat.strongRecOn with
  | ind n ih =>
  intro cs x h hw
  obtain ⟨xs, m, rfl, rfl, hl, hlen, hf⟩ := DataW.trod_struct Tryz.underlying54 h
  match xs, hlen with
  | [y0, y1, y2, y3], _ =>
  rw [cz54] at hl
  match cs, hl with
  | [v0, v1, v2, v3], _ =>
  have h0 : DataW.trod enc Tryz.prog W 0 (fun _ => true) true m 3 (([v0, v1, v2, v3].drop 0).take (Tryz.prog.cellsOf 3)) = some y0 := hf 0 _ rfl
  have h1 : DataW.trod enc Tryz.prog W 0 (fun _ => true) true m 3 (([v0, v1, v2, v3].drop 1).take (Tryz.prog.cellsOf 3)) = some y1 := hf 1 _ rfl
  have h2 : DataW.trod enc Tryz.prog W 0 (fun _ => true) true m 3 (([v0, v1, v2, v3].drop 2).take (Tryz.prog.cellsOf 3)) = some y2 := hf 2 _ rfl
  have h3 : DataW.trod enc Tryz.prog W 0 (fun _ => true) true m 52 (([v0, v1, v2, v3].drop 3).take (Tryz.prog.cellsOf 52)) = some y3 := hf 3 _ rfl
  simp only [cz3, cz52, List.drop_zero, List.drop_succ_cons, List.take_succ_cons, List.take_zero] at h0 h1 h2 h3
  simp only [DataW.weights, Tryz.underlying54, List.map_cons, List.map_nil, DataW.weightsEach, List.append_nil, List.mem_append] at hw
  obtain ⟨f0, e0, _, _⟩ := DataW.trod_int Tryz.underlying3 h0
  obtain ⟨f1, e1, _, _⟩ := DataW.trod_int Tryz.underlying3 h1
  obtain ⟨f2, e2, _, _⟩ := DataW.trod_int Tryz.underlying3 h2
  obtain ⟨f3, a1, c1, e3, r1⟩ := rds_Tm m (fun m' hm' cs' x' h' hw' => by
    obtain ⟨t, a1, c1, rfl, r1⟩ := ih m' (by omega) cs' x' h' hw'
    exact ⟨t, repC_Tm r1⟩) h3 (fun y hy => hw y (.inr (.inr (.inr hy))))
  simp only [List.cons.injEq, and_true] at e0 e1 e2 e3
  subst e0
  subst e1
  subst e2
  subst e3
  exact ⟨.mk f0 f1 f2 f3, a1, c1, rfl, r1⟩

theorem rdl_Tm (n : Nat) (cs : List Value) (x : DataW H × List MemPlace) (h : DataW.trod enc Tryz.prog W 0 (fun _ => true) true n 52 cs = some x) (hw : ∀ y ∈ x.1.weights Tryz.prog 52, y ≤ reachBytes) :
    ∃ (l : List Tm) (a : Option Addr) (c : Nat), cs = [.slice a (Tm.encL l).length c] ∧ RepC (fun _ => True) W (.sl 4 (Tm.encL l)) [.slice a (Tm.encL l).length c] :=
  rds_Tm n (fun m' _ cs' x' h' hw' => by
    obtain ⟨t, a1, c1, rfl, r1⟩ := rd_Tm m' cs' x' h' hw'
    exact ⟨t, repC_Tm r1⟩) h hw

theorem argl_Tm {base : Nat} {v : Value} {d : DataW H} {p : List MemPlace} (hok : Value.okWide Tryz.prog W .any base 52 v) (h : DataW.Trod enc Tryz.prog W 0 (fun _ => true) true 52 v d p) (hw : ∀ y ∈ d.weights Tryz.prog 52, y ≤ reachBytes) :
    ∃ (l : List Tm) (a : Option Addr) (c : Nat), v = .slice a (Tm.encL l).length c ∧ Rep (fun _ => True) W (.slice a (Tm.encL l).length c) (.sl 4 (Tm.encL l)) := by
  obtain ⟨a0, l0, c0, rfl⟩ := okWide_slice Tryz.underlying52 hok
  obtain ⟨n, hn⟩ := h
  obtain ⟨l, a, c, e, hr⟩ := rdl_Tm n _ _ hn hw
  simp only [Value.cells, List.cons.injEq, and_true] at e
  exact ⟨l, a, c, e, hr⟩

theorem arg_Tm {base : Nat} {v : Value} {d : DataW H} {p : List MemPlace} (hok : Value.okWide Tryz.prog W .any base 54 v) (h : DataW.Trod enc Tryz.prog W 0 (fun _ => true) true 54 v d p) (hw : ∀ y ∈ d.weights Tryz.prog 54, y ≤ reachBytes) :
    ∃ (t : Tm) (a1 : Option Addr) (c1 : Nat), v = .agg #[.int .i64 t.op, .int .i64 t.hd, .int .i64 t.n, .slice a1 (Tm.encL t.args).length c1] ∧ Rep (fun _ => True) W (.slice a1 (Tm.encL t.args).length c1) (.sl 4 (Tm.encL t.args)) := by
  obtain ⟨cs, rfl, _⟩ := okWide_struct Tryz.underlying54 hok
  obtain ⟨n, hn⟩ := h
  obtain ⟨t, a1, c1, e, r1⟩ := rd_Tm n _ _ hn hw
  simp only [Value.cells] at e
  have e : cs = #[.int .i64 t.op, .int .i64 t.hd, .int .i64 t.n, .slice a1 (Tm.encL t.args).length c1] := by rw [← Array.toList_inj, e]
  exact ⟨t, a1, c1, by rw [e], r1⟩

theorem repC_Dc {W : World} {t : Dc} {a1 : Option Addr} {c1 : Nat} (r1 : RepC (fun _ => True) W (.sl 4 (Tm.encL t.cls.args)) [.slice a1 (Tm.encL t.cls.args).length c1]) : RepC (fun _ => True) W t.enc [.string t.name, .int .i64 t.cls.op, .int .i64 t.cls.hd, .int .i64 t.cls.n, .slice a1 (Tm.encL t.cls.args).length c1, .int .i64 t.implicit] := by
  rw [Dc.enc_eq]
  exact ⟨[.string t.name], _, rfl, rfl, [.int .i64 t.cls.op, .int .i64 t.cls.hd, .int .i64 t.cls.n, .slice a1 (Tm.encL t.cls.args).length c1], _, rfl, ⟨[.int .i64 t.cls.op], _, rfl, rfl, [.int .i64 t.cls.hd], _, rfl, rfl, [.int .i64 t.cls.n], _, rfl, rfl, [.slice a1 (Tm.encL t.cls.args).length c1], _, rfl, r1, rfl⟩, [.int .i64 t.implicit], _, rfl, rfl, rfl⟩

theorem bz74 : 1 ≤ Tryz.prog.bytesOf 74 := by decide +kernel

theorem rds_Dc (n : Nat) (hel : ∀ m, m < n → ∀ cs x, DataW.trod enc Tryz.prog W 0 (fun _ => true) true m 74 cs = some x → (∀ y ∈ x.1.weights Tryz.prog 74, y ≤ reachBytes) → ∃ t : Dc, RepC (fun _ => True) W t.enc cs)
    {cs : List Value} {x : DataW H × List MemPlace} (h : DataW.trod enc Tryz.prog W 0 (fun _ => true) true n 22 cs = some x) (hw : ∀ y ∈ x.1.weights Tryz.prog 22, y ≤ reachBytes) :
    ∃ (l : List Dc) (a : Option Addr) (c : Nat), cs = [.slice a (Dc.encL l).length c] ∧ RepC (fun _ => True) W (.sl 6 (Dc.encL l)) [.slice a (Dc.encL l).length c] := by
  obtain ⟨l, a, c, e, hr⟩ := read_slice Tryz.underlying22 cz74 (by decide) bz74 Dc.enc n hel h hw
  subst e
  exact ⟨l, a, c, by rw [Dc.encL_length], by rw [Dc.encL_eq, List.length_map]; exact hr⟩

theorem rd_Dc : ∀ (n : Nat) (cs : List Value) (x : DataW H × List MemPlace), DataW.trod enc Tryz.prog W 0 (fun _ => true) true n 74 cs = some x → (∀ y ∈ x.1.weights Tryz.prog 74, y ≤ reachBytes) →
    ∃ (t : Dc) (a1 : Option Addr) (c1 : Nat), cs = [.string t.name, .int .i64 t.cls.op, .int .i64 t.cls.hd, .int .i64 t.cls.n, .slice a1 (Tm.encL t.cls.args).length c1, .int .i64 t.implicit] ∧ RepC (fun _ => True) W (.sl 4 (Tm.encL t.cls.args)) [.slice a1 (Tm.encL t.cls.args).length c1] := by
  intro n
  intro cs x h hw
  obtain ⟨xs, m, rfl, rfl, hl, hlen, hf⟩ := DataW.trod_struct Tryz.underlying74 h
  match xs, hlen with
  | [y0, y1, y2], _ =>
  rw [cz74] at hl
  match cs, hl with
  | [v0, v1, v2, v3, v4, v5], _ =>
  have h0 : DataW.trod enc Tryz.prog W 0 (fun _ => true) true m 9 (([v0, v1, v2, v3, v4, v5].drop 0).take (Tryz.prog.cellsOf 9)) = some y0 := hf 0 _ rfl
  have h1 : DataW.trod enc Tryz.prog W 0 (fun _ => true) true m 54 (([v0, v1, v2, v3, v4, v5].drop 1).take (Tryz.prog.cellsOf 54)) = some y1 := hf 1 _ rfl
  have h2 : DataW.trod enc Tryz.prog W 0 (fun _ => true) true m 3 (([v0, v1, v2, v3, v4, v5].drop 5).take (Tryz.prog.cellsOf 3)) = some y2 := hf 2 _ rfl
  simp only [cz3, cz54, cz9, List.drop_zero, List.drop_succ_cons, List.take_succ_cons, List.take_zero] at h0 h1 h2
  simp only [DataW.weights, Tryz.underlying74, List.map_cons, List.map_nil, DataW.weightsEach, List.append_nil, List.mem_append] at hw
  obtain ⟨f0, e0, _, _⟩ := DataW.trod_string Tryz.underlying9 h0
  obtain ⟨f1, a1, c1, e1, r1⟩ := rd_Tm m _ _ h1 (fun y hy => hw y (.inr (.inl hy)))
  obtain ⟨f2, e2, _, _⟩ := DataW.trod_int Tryz.underlying3 h2
  simp only [List.cons.injEq, and_true] at e0 e1 e2
  subst e0
  obtain ⟨rfl, rfl, rfl, rfl⟩ := e1
  subst e2
  exact ⟨.mk f0 f1 f2, a1, c1, rfl, r1⟩

theorem rdl_Dc (n : Nat) (cs : List Value) (x : DataW H × List MemPlace) (h : DataW.trod enc Tryz.prog W 0 (fun _ => true) true n 22 cs = some x) (hw : ∀ y ∈ x.1.weights Tryz.prog 22, y ≤ reachBytes) :
    ∃ (l : List Dc) (a : Option Addr) (c : Nat), cs = [.slice a (Dc.encL l).length c] ∧ RepC (fun _ => True) W (.sl 6 (Dc.encL l)) [.slice a (Dc.encL l).length c] :=
  rds_Dc n (fun m' _ cs' x' h' hw' => by
    obtain ⟨t, a1, c1, rfl, r1⟩ := rd_Dc m' cs' x' h' hw'
    exact ⟨t, repC_Dc r1⟩) h hw

theorem argl_Dc {base : Nat} {v : Value} {d : DataW H} {p : List MemPlace} (hok : Value.okWide Tryz.prog W .any base 22 v) (h : DataW.Trod enc Tryz.prog W 0 (fun _ => true) true 22 v d p) (hw : ∀ y ∈ d.weights Tryz.prog 22, y ≤ reachBytes) :
    ∃ (l : List Dc) (a : Option Addr) (c : Nat), v = .slice a (Dc.encL l).length c ∧ Rep (fun _ => True) W (.slice a (Dc.encL l).length c) (.sl 6 (Dc.encL l)) := by
  obtain ⟨a0, l0, c0, rfl⟩ := okWide_slice Tryz.underlying22 hok
  obtain ⟨n, hn⟩ := h
  obtain ⟨l, a, c, e, hr⟩ := rdl_Dc n _ _ hn hw
  simp only [Value.cells, List.cons.injEq, and_true] at e
  exact ⟨l, a, c, e, hr⟩

theorem arg_Dc {base : Nat} {v : Value} {d : DataW H} {p : List MemPlace} (hok : Value.okWide Tryz.prog W .any base 74 v) (h : DataW.Trod enc Tryz.prog W 0 (fun _ => true) true 74 v d p) (hw : ∀ y ∈ d.weights Tryz.prog 74, y ≤ reachBytes) :
    ∃ (t : Dc) (a1 : Option Addr) (c1 : Nat), v = .agg #[.string t.name, .int .i64 t.cls.op, .int .i64 t.cls.hd, .int .i64 t.cls.n, .slice a1 (Tm.encL t.cls.args).length c1, .int .i64 t.implicit] ∧ Rep (fun _ => True) W (.slice a1 (Tm.encL t.cls.args).length c1) (.sl 4 (Tm.encL t.cls.args)) := by
  obtain ⟨cs, rfl, _⟩ := okWide_struct Tryz.underlying74 hok
  obtain ⟨n, hn⟩ := h
  obtain ⟨t, a1, c1, e, r1⟩ := rd_Dc n _ _ hn hw
  simp only [Value.cells] at e
  have e : cs = #[.string t.name, .int .i64 t.cls.op, .int .i64 t.cls.hd, .int .i64 t.cls.n, .slice a1 (Tm.encL t.cls.args).length c1, .int .i64 t.implicit] := by rw [← Array.toList_inj, e]
  exact ⟨t, a1, c1, by rw [e], r1⟩

theorem repC_Mt {W : World} {t : Mt} {a1 : Option Addr} {c1 : Nat} {a2 : Option Addr} {c2 : Nat} (r1 : RepC (fun _ => True) W (.sl 4 (Tm.encL t.cls.args)) [.slice a1 (Tm.encL t.cls.args).length c1]) (r2 : RepC (fun _ => True) W (.sl 4 (Tm.encL t.value.args)) [.slice a2 (Tm.encL t.value.args).length c2]) : RepC (fun _ => True) W t.enc [.string t.name, .int .i64 t.cls.op, .int .i64 t.cls.hd, .int .i64 t.cls.n, .slice a1 (Tm.encL t.cls.args).length c1, .bool t.solved, .int .i64 t.value.op, .int .i64 t.value.hd, .int .i64 t.value.n, .slice a2 (Tm.encL t.value.args).length c2] := by
  rw [Mt.enc_eq]
  exact ⟨[.string t.name], _, rfl, rfl, [.int .i64 t.cls.op, .int .i64 t.cls.hd, .int .i64 t.cls.n, .slice a1 (Tm.encL t.cls.args).length c1], _, rfl, ⟨[.int .i64 t.cls.op], _, rfl, rfl, [.int .i64 t.cls.hd], _, rfl, rfl, [.int .i64 t.cls.n], _, rfl, rfl, [.slice a1 (Tm.encL t.cls.args).length c1], _, rfl, r1, rfl⟩, [.bool t.solved], _, rfl, rfl, [.int .i64 t.value.op, .int .i64 t.value.hd, .int .i64 t.value.n, .slice a2 (Tm.encL t.value.args).length c2], _, rfl, ⟨[.int .i64 t.value.op], _, rfl, rfl, [.int .i64 t.value.hd], _, rfl, rfl, [.int .i64 t.value.n], _, rfl, rfl, [.slice a2 (Tm.encL t.value.args).length c2], _, rfl, r2, rfl⟩, rfl⟩

theorem bz134 : 1 ≤ Tryz.prog.bytesOf 134 := by decide +kernel

theorem rds_Mt (n : Nat) (hel : ∀ m, m < n → ∀ cs x, DataW.trod enc Tryz.prog W 0 (fun _ => true) true m 134 cs = some x → (∀ y ∈ x.1.weights Tryz.prog 134, y ≤ reachBytes) → ∃ t : Mt, RepC (fun _ => True) W t.enc cs)
    {cs : List Value} {x : DataW H × List MemPlace} (h : DataW.trod enc Tryz.prog W 0 (fun _ => true) true n 51 cs = some x) (hw : ∀ y ∈ x.1.weights Tryz.prog 51, y ≤ reachBytes) :
    ∃ (l : List Mt) (a : Option Addr) (c : Nat), cs = [.slice a (Mt.encL l).length c] ∧ RepC (fun _ => True) W (.sl 10 (Mt.encL l)) [.slice a (Mt.encL l).length c] := by
  obtain ⟨l, a, c, e, hr⟩ := read_slice Tryz.underlying51 cz134 (by decide) bz134 Mt.enc n hel h hw
  subst e
  exact ⟨l, a, c, by rw [Mt.encL_length], by rw [Mt.encL_eq, List.length_map]; exact hr⟩

theorem rd_Mt : ∀ (n : Nat) (cs : List Value) (x : DataW H × List MemPlace), DataW.trod enc Tryz.prog W 0 (fun _ => true) true n 134 cs = some x → (∀ y ∈ x.1.weights Tryz.prog 134, y ≤ reachBytes) →
    ∃ (t : Mt) (a1 : Option Addr) (c1 : Nat) (a2 : Option Addr) (c2 : Nat), cs = [.string t.name, .int .i64 t.cls.op, .int .i64 t.cls.hd, .int .i64 t.cls.n, .slice a1 (Tm.encL t.cls.args).length c1, .bool t.solved, .int .i64 t.value.op, .int .i64 t.value.hd, .int .i64 t.value.n, .slice a2 (Tm.encL t.value.args).length c2] ∧ RepC (fun _ => True) W (.sl 4 (Tm.encL t.cls.args)) [.slice a1 (Tm.encL t.cls.args).length c1] ∧ RepC (fun _ => True) W (.sl 4 (Tm.encL t.value.args)) [.slice a2 (Tm.encL t.value.args).length c2] := by
  intro n
  intro cs x h hw
  obtain ⟨xs, m, rfl, rfl, hl, hlen, hf⟩ := DataW.trod_struct Tryz.underlying134 h
  match xs, hlen with
  | [y0, y1, y2, y3], _ =>
  rw [cz134] at hl
  match cs, hl with
  | [v0, v1, v2, v3, v4, v5, v6, v7, v8, v9], _ =>
  have h0 : DataW.trod enc Tryz.prog W 0 (fun _ => true) true m 9 (([v0, v1, v2, v3, v4, v5, v6, v7, v8, v9].drop 0).take (Tryz.prog.cellsOf 9)) = some y0 := hf 0 _ rfl
  have h1 : DataW.trod enc Tryz.prog W 0 (fun _ => true) true m 54 (([v0, v1, v2, v3, v4, v5, v6, v7, v8, v9].drop 1).take (Tryz.prog.cellsOf 54)) = some y1 := hf 1 _ rfl
  have h2 : DataW.trod enc Tryz.prog W 0 (fun _ => true) true m 4 (([v0, v1, v2, v3, v4, v5, v6, v7, v8, v9].drop 5).take (Tryz.prog.cellsOf 4)) = some y2 := hf 2 _ rfl
  have h3 : DataW.trod enc Tryz.prog W 0 (fun _ => true) true m 54 (([v0, v1, v2, v3, v4, v5, v6, v7, v8, v9].drop 6).take (Tryz.prog.cellsOf 54)) = some y3 := hf 3 _ rfl
  simp only [cz4, cz54, cz9, List.drop_zero, List.drop_succ_cons, List.take_succ_cons, List.take_zero] at h0 h1 h2 h3
  simp only [DataW.weights, Tryz.underlying134, List.map_cons, List.map_nil, DataW.weightsEach, List.append_nil, List.mem_append] at hw
  obtain ⟨f0, e0, _, _⟩ := DataW.trod_string Tryz.underlying9 h0
  obtain ⟨f1, a1, c1, e1, r1⟩ := rd_Tm m _ _ h1 (fun y hy => hw y (.inr (.inl hy)))
  obtain ⟨f2, e2, _⟩ := DataW.trod_bool Tryz.underlying4 h2
  obtain ⟨f3, a2, c2, e3, r2⟩ := rd_Tm m _ _ h3 (fun y hy => hw y (.inr (.inr (.inr hy))))
  simp only [List.cons.injEq, and_true] at e0 e1 e2 e3
  subst e0
  obtain ⟨rfl, rfl, rfl, rfl⟩ := e1
  subst e2
  obtain ⟨rfl, rfl, rfl, rfl⟩ := e3
  exact ⟨.mk f0 f1 f2 f3, a1, c1, a2, c2, rfl, r1, r2⟩

theorem rdl_Mt (n : Nat) (cs : List Value) (x : DataW H × List MemPlace) (h : DataW.trod enc Tryz.prog W 0 (fun _ => true) true n 51 cs = some x) (hw : ∀ y ∈ x.1.weights Tryz.prog 51, y ≤ reachBytes) :
    ∃ (l : List Mt) (a : Option Addr) (c : Nat), cs = [.slice a (Mt.encL l).length c] ∧ RepC (fun _ => True) W (.sl 10 (Mt.encL l)) [.slice a (Mt.encL l).length c] :=
  rds_Mt n (fun m' _ cs' x' h' hw' => by
    obtain ⟨t, a1, c1, a2, c2, rfl, r1, r2⟩ := rd_Mt m' cs' x' h' hw'
    exact ⟨t, repC_Mt r1 r2⟩) h hw

theorem argl_Mt {base : Nat} {v : Value} {d : DataW H} {p : List MemPlace} (hok : Value.okWide Tryz.prog W .any base 51 v) (h : DataW.Trod enc Tryz.prog W 0 (fun _ => true) true 51 v d p) (hw : ∀ y ∈ d.weights Tryz.prog 51, y ≤ reachBytes) :
    ∃ (l : List Mt) (a : Option Addr) (c : Nat), v = .slice a (Mt.encL l).length c ∧ Rep (fun _ => True) W (.slice a (Mt.encL l).length c) (.sl 10 (Mt.encL l)) := by
  obtain ⟨a0, l0, c0, rfl⟩ := okWide_slice Tryz.underlying51 hok
  obtain ⟨n, hn⟩ := h
  obtain ⟨l, a, c, e, hr⟩ := rdl_Mt n _ _ hn hw
  simp only [Value.cells, List.cons.injEq, and_true] at e
  exact ⟨l, a, c, e, hr⟩

theorem arg_Mt {base : Nat} {v : Value} {d : DataW H} {p : List MemPlace} (hok : Value.okWide Tryz.prog W .any base 134 v) (h : DataW.Trod enc Tryz.prog W 0 (fun _ => true) true 134 v d p) (hw : ∀ y ∈ d.weights Tryz.prog 134, y ≤ reachBytes) :
    ∃ (t : Mt) (a1 : Option Addr) (c1 : Nat) (a2 : Option Addr) (c2 : Nat), v = .agg #[.string t.name, .int .i64 t.cls.op, .int .i64 t.cls.hd, .int .i64 t.cls.n, .slice a1 (Tm.encL t.cls.args).length c1, .bool t.solved, .int .i64 t.value.op, .int .i64 t.value.hd, .int .i64 t.value.n, .slice a2 (Tm.encL t.value.args).length c2] ∧ Rep (fun _ => True) W (.slice a1 (Tm.encL t.cls.args).length c1) (.sl 4 (Tm.encL t.cls.args)) ∧ Rep (fun _ => True) W (.slice a2 (Tm.encL t.value.args).length c2) (.sl 4 (Tm.encL t.value.args)) := by
  obtain ⟨cs, rfl, _⟩ := okWide_struct Tryz.underlying134 hok
  obtain ⟨n, hn⟩ := h
  obtain ⟨t, a1, c1, a2, c2, e, r1, r2⟩ := rd_Mt n _ _ hn hw
  simp only [Value.cells] at e
  have e : cs = #[.string t.name, .int .i64 t.cls.op, .int .i64 t.cls.hd, .int .i64 t.cls.n, .slice a1 (Tm.encL t.cls.args).length c1, .bool t.solved, .int .i64 t.value.op, .int .i64 t.value.hd, .int .i64 t.value.n, .slice a2 (Tm.encL t.value.args).length c2] := by rw [← Array.toList_inj, e]
  exact ⟨t, a1, c1, a2, c2, by rw [e], r1, r2⟩

theorem repC_Ask {W : World} {t : Ask} {a1 : Option Addr} {c1 : Nat} {a2 : Option Addr} {c2 : Nat} {a3 : Option Addr} {c3 : Nat} (r1 : RepC (fun _ => True) W (.sl 6 (Dc.encL t.sig)) [.slice a1 (Dc.encL t.sig).length c1]) (r2 : RepC (fun _ => True) W (.sl 10 (Mt.encL t.metas)) [.slice a2 (Mt.encL t.metas).length c2]) (r3 : RepC (fun _ => True) W (.sl 4 (Tm.encL t.t.args)) [.slice a3 (Tm.encL t.t.args).length c3]) : RepC (fun _ => True) W t.enc [.slice a1 (Dc.encL t.sig).length c1, .slice a2 (Mt.encL t.metas).length c2, .int .i64 t.n, .int .i64 t.t.op, .int .i64 t.t.hd, .int .i64 t.t.n, .slice a3 (Tm.encL t.t.args).length c3] := by
  rw [Ask.enc_eq]
  exact ⟨[.slice a1 (Dc.encL t.sig).length c1], _, rfl, r1, [.slice a2 (Mt.encL t.metas).length c2], _, rfl, r2, [.int .i64 t.n], _, rfl, rfl, [.int .i64 t.t.op, .int .i64 t.t.hd, .int .i64 t.t.n, .slice a3 (Tm.encL t.t.args).length c3], _, rfl, ⟨[.int .i64 t.t.op], _, rfl, rfl, [.int .i64 t.t.hd], _, rfl, rfl, [.int .i64 t.t.n], _, rfl, rfl, [.slice a3 (Tm.encL t.t.args).length c3], _, rfl, r3, rfl⟩, rfl⟩

theorem rd_Ask : ∀ (n : Nat) (cs : List Value) (x : DataW H × List MemPlace), DataW.trod enc Tryz.prog W 0 (fun _ => true) true n 56 cs = some x → (∀ y ∈ x.1.weights Tryz.prog 56, y ≤ reachBytes) →
    ∃ (t : Ask) (a1 : Option Addr) (c1 : Nat) (a2 : Option Addr) (c2 : Nat) (a3 : Option Addr) (c3 : Nat), cs = [.slice a1 (Dc.encL t.sig).length c1, .slice a2 (Mt.encL t.metas).length c2, .int .i64 t.n, .int .i64 t.t.op, .int .i64 t.t.hd, .int .i64 t.t.n, .slice a3 (Tm.encL t.t.args).length c3] ∧ RepC (fun _ => True) W (.sl 6 (Dc.encL t.sig)) [.slice a1 (Dc.encL t.sig).length c1] ∧ RepC (fun _ => True) W (.sl 10 (Mt.encL t.metas)) [.slice a2 (Mt.encL t.metas).length c2] ∧ RepC (fun _ => True) W (.sl 4 (Tm.encL t.t.args)) [.slice a3 (Tm.encL t.t.args).length c3] := by
  intro n
  intro cs x h hw
  obtain ⟨xs, m, rfl, rfl, hl, hlen, hf⟩ := DataW.trod_struct Tryz.underlying56 h
  match xs, hlen with
  | [y0, y1, y2, y3], _ =>
  rw [cz56] at hl
  match cs, hl with
  | [v0, v1, v2, v3, v4, v5, v6], _ =>
  have h0 : DataW.trod enc Tryz.prog W 0 (fun _ => true) true m 22 (([v0, v1, v2, v3, v4, v5, v6].drop 0).take (Tryz.prog.cellsOf 22)) = some y0 := hf 0 _ rfl
  have h1 : DataW.trod enc Tryz.prog W 0 (fun _ => true) true m 51 (([v0, v1, v2, v3, v4, v5, v6].drop 1).take (Tryz.prog.cellsOf 51)) = some y1 := hf 1 _ rfl
  have h2 : DataW.trod enc Tryz.prog W 0 (fun _ => true) true m 3 (([v0, v1, v2, v3, v4, v5, v6].drop 2).take (Tryz.prog.cellsOf 3)) = some y2 := hf 2 _ rfl
  have h3 : DataW.trod enc Tryz.prog W 0 (fun _ => true) true m 54 (([v0, v1, v2, v3, v4, v5, v6].drop 3).take (Tryz.prog.cellsOf 54)) = some y3 := hf 3 _ rfl
  simp only [cz22, cz3, cz51, cz54, List.drop_zero, List.drop_succ_cons, List.take_succ_cons, List.take_zero] at h0 h1 h2 h3
  simp only [DataW.weights, Tryz.underlying56, List.map_cons, List.map_nil, DataW.weightsEach, List.append_nil, List.mem_append] at hw
  obtain ⟨f0, a1, c1, e0, r1⟩ := rdl_Dc m _ _ h0 (fun y hy => hw y (.inl hy))
  obtain ⟨f1, a2, c2, e1, r2⟩ := rdl_Mt m _ _ h1 (fun y hy => hw y (.inr (.inl hy)))
  obtain ⟨f2, e2, _, _⟩ := DataW.trod_int Tryz.underlying3 h2
  obtain ⟨f3, a3, c3, e3, r3⟩ := rd_Tm m _ _ h3 (fun y hy => hw y (.inr (.inr (.inr hy))))
  simp only [List.cons.injEq, and_true] at e0 e1 e2 e3
  subst e0
  subst e1
  subst e2
  obtain ⟨rfl, rfl, rfl, rfl⟩ := e3
  exact ⟨.mk f0 f1 f2 f3, a1, c1, a2, c2, a3, c3, rfl, r1, r2, r3⟩

theorem arg_Ask {base : Nat} {v : Value} {d : DataW H} {p : List MemPlace} (hok : Value.okWide Tryz.prog W .any base 56 v) (h : DataW.Trod enc Tryz.prog W 0 (fun _ => true) true 56 v d p) (hw : ∀ y ∈ d.weights Tryz.prog 56, y ≤ reachBytes) :
    ∃ (t : Ask) (a1 : Option Addr) (c1 : Nat) (a2 : Option Addr) (c2 : Nat) (a3 : Option Addr) (c3 : Nat), v = .agg #[.slice a1 (Dc.encL t.sig).length c1, .slice a2 (Mt.encL t.metas).length c2, .int .i64 t.n, .int .i64 t.t.op, .int .i64 t.t.hd, .int .i64 t.t.n, .slice a3 (Tm.encL t.t.args).length c3] ∧ Rep (fun _ => True) W (.slice a1 (Dc.encL t.sig).length c1) (.sl 6 (Dc.encL t.sig)) ∧ Rep (fun _ => True) W (.slice a2 (Mt.encL t.metas).length c2) (.sl 10 (Mt.encL t.metas)) ∧ Rep (fun _ => True) W (.slice a3 (Tm.encL t.t.args).length c3) (.sl 4 (Tm.encL t.t.args)) := by
  obtain ⟨cs, rfl, _⟩ := okWide_struct Tryz.underlying56 hok
  obtain ⟨n, hn⟩ := h
  obtain ⟨t, a1, c1, a2, c2, a3, c3, e, r1, r2, r3⟩ := rd_Ask n _ _ hn hw
  simp only [Value.cells] at e
  have e : cs = #[.slice a1 (Dc.encL t.sig).length c1, .slice a2 (Mt.encL t.metas).length c2, .int .i64 t.n, .int .i64 t.t.op, .int .i64 t.t.hd, .int .i64 t.t.n, .slice a3 (Tm.encL t.t.args).length c3] := by rw [← Array.toList_inj, e]
  exact ⟨t, a1, c1, a2, c2, a3, c3, by rw [e], r1, r2, r3⟩
end
end Go.Proofs.YtnolnmfpmhpapaaGreatDoor
end

/-! EvA -/
section
namespace Go.Proofs.YtnolnmfpmhpapaaGreatDoor
open Go.Tr Go
set_option linter.unusedVariables false

theorem wrapS {i : Nat} (h : i < 2000000000000000000) : IntKind.i64.wrap ((i : Int) + 1) = ((i + 1 : Nat) : Int) := by
  rw [wrap_i64 (by omega) (by omega)]; omega

/-- f yields something, given fuel enough. -/
def Tot {α : Type} (f : Nat → Option α) : Prop := ∃ r, Ev f r
theorem Ev.tot {α : Type} {f : Nat → Option α} {r : α} (h : Ev f r) : Tot f := ⟨r, h⟩
theorem Ev.unique {α : Type} {f : Nat → Option α} {r r' : α} (h : Ev f r) (h' : Ev f r') : r = r' := by
  obtain ⟨N, h⟩ := h
  obtain ⟨M, h'⟩ := h'
  have e1 := h (max N M) (by omega)
  have e2 := h' (max N M) (by omega)
  rw [e1] at e2
  exact Option.some.inj e2

/-- f yields something of which p holds. -/
def Yields {α : Type} (f : Nat → Option α) (p : α → Prop) : Prop := ∃ r, Ev f r ∧ p r
theorem Yields.succ {α : Type} {f g : Nat → Option α} {p : α → Prop} (hf : ∀ n, f (n + 1) = g n) (h : Yields g p) : Yields f p := by
  obtain ⟨r, h1, h2⟩ := h; exact ⟨r, h1.succ hf, h2⟩
theorem Yields.bind {α β : Type} {f : Nat → Option α} {g : Nat → α → Option β} {q : α → Prop} {p : β → Prop} (h : Yields f q) (k : ∀ x, q x → Yields (fun n => g n x) p) : Yields (fun n => (f n).bind (g n)) p := by
  obtain ⟨x, h1, h2⟩ := h
  obtain ⟨r, h3, h4⟩ := k x h2
  exact ⟨r, h1.bind h3, h4⟩
theorem Yields.pure {α : Type} {p : α → Prop} {r : α} (h : p r) : Yields (fun _ => some r) p := ⟨r, Ev.pure r, h⟩
theorem Yields.ite {α : Type} {b : Bool} {f g : Nat → Option α} {p : α → Prop} (h : b = true → Yields f p) (k : b = false → Yields g p) : Yields (fun n => cond b (f n) (g n)) p := by
  cases b with
  | true => exact h rfl
  | false => exact k rfl
theorem Yields.need {α : Type} {b : Bool} {f : Nat → Option α} {p : α → Prop} (hb : b = true) (h : Yields f p) : Yields (fun n => cond b (f n) none) p := by
  subst hb; exact h
theorem Yields.some {α β : Type} {o : Option α} {x : α} {g : Nat → α → Option β} {p : β → Prop} (ho : o = Option.some x) (k : Yields (fun n => g n x) p) : Yields (fun n => o.bind (g n)) p := by
  subst ho; exact k
theorem Yields.mono {α : Type} {f : Nat → Option α} {p q : α → Prop} (h : Yields f p) (k : ∀ r, p r → q r) : Yields f q := by
  obtain ⟨r, h1, h2⟩ := h; exact ⟨r, h1, k r h2⟩
theorem Ev.yields {α : Type} {f : Nat → Option α} {r : α} {p : α → Prop} (h : Ev f r) (hp : p r) : Yields f p := ⟨r, h, hp⟩
theorem Yields.ev {α : Type} {f : Nat → Option α} {r : α} (h : Yields f (· = r)) : Ev f r := by
  obtain ⟨r', h1, rfl⟩ := h; exact h1
theorem Ev.is {α : Type} {f : Nat → Option α} {r : α} (h : Ev f r) : Yields f (· = r) := ⟨r, h, rfl⟩

theorem Ev.some {α β : Type} {o : Option α} {x : α} {g : Nat → α → Option β} {r : β} (ho : o = Option.some x) (k : Ev (fun n => g n x) r) : Ev (fun n => o.bind (g n)) r := by
  subst ho; exact k
theorem Ev.need {α : Type} {b : Bool} {f : Nat → Option α} {r : α} (hb : b = true) (h : Ev f r) : Ev (fun n => cond b (f n) none) r := by
  subst hb; exact h

theorem idx_get {α : Type} {l : List α} {i : Nat} {x : α} (h : l[i]? = Option.some x) : idx l (i : Int) = Option.some x := by rw [idx_nat, h]
theorem idx_get0 {α : Type} {x : α} {l : List α} : idx (x :: l) 0 = Option.some x := rfl
theorem idx_get1 {α : Type} {x y : α} {l : List α} : idx (x :: y :: l) 1 = Option.some y := rfl

end Go.Proofs.YtnolnmfpmhpapaaGreatDoor
end
