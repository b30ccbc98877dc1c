/- Merged texts: Rd1 Gm HandO HandF Awake. How arguments of struct types read (written by gen_read.py). Condition: each slice that is met weighs no more than the form's own reach. Maps from ints to structs with one slice each: what is known of all entries together. No condition: lemmas for the texts that gen.py prints. Contracts of orders and their comparison, in the form that gen.py prints. Conditions stand in each. Contracts proved by hand, in the form that gen.py prints: term.Free. Conditions stand in each. The contract of trusslaw15.awake: it answers true. No condition. -/
import Derived.Test.YtpibdcjdamibdaaGreatQH
/-! Rd1 -/
section
namespace Go.Proofs.YtpibdcjdamibdaaGreat
open Go.Tr Go
open Go.ChangeShapes Go.WideShapes Go.ChangeAt Go.RowKit
set_option maxRecDepth 10000
set_option linter.unusedVariables false

theorem cz3 : Tryz.prog.cellsOf 3 = 1 := by kernel_rfl
theorem cz9 : Tryz.prog.cellsOf 9 = 1 := by kernel_rfl
theorem cz25 : Tryz.prog.cellsOf 25 = 1 := by kernel_rfl
theorem cz27 : Tryz.prog.cellsOf 27 = 3 := by kernel_rfl
theorem cz29 : Tryz.prog.cellsOf 29 = 4 := by kernel_rfl
theorem cz49 : Tryz.prog.cellsOf 49 = 1 := by kernel_rfl
theorem cz51 : Tryz.prog.cellsOf 51 = 4 := by kernel_rfl
theorem cz66 : Tryz.prog.cellsOf 66 = 6 := by kernel_rfl

section
variable {H : Type} {enc : TypeId × Value → H} {W : World}

theorem repC_Tm {W : World} {t : Tm} {a1 : Option Addr} {c1 : Nat} (r1 : RepC (fun _ => True) W (.sl 4 (Tm.encL t.args)) [.slice a1 (Tm.encL t.args).length c1]) : RepC (fun _ => True) W t.enc [.int .i64 t.op, .int .i64 t.hd, .int .i64 t.n, .slice a1 (Tm.encL t.args).length c1] := by
  rw [Tm.enc_eq]
  exact ⟨[.int .i64 t.op], _, rfl, rfl, [.int .i64 t.hd], _, rfl, rfl, [.int .i64 t.n], _, rfl, rfl, [.slice a1 (Tm.encL t.args).length c1], _, rfl, r1, rfl⟩

theorem bz51 : 1 ≤ Tryz.prog.bytesOf 51 := by decide +kernel

theorem rds_Tm (n : Nat) (hel : ∀ m, m < n → ∀ cs x, DataW.trod enc Tryz.prog W 0 (fun _ => true) true m 51 cs = some x → (∀ y ∈ x.1.weights Tryz.prog 51, y ≤ reachBytes) → ∃ t : Tm, RepC (fun _ => True) W t.enc cs)
    {cs : List Value} {x : DataW H × List MemPlace} (h : DataW.trod enc Tryz.prog W 0 (fun _ => true) true n 49 cs = some x) (hw : ∀ y ∈ x.1.weights Tryz.prog 49, y ≤ reachBytes) :
    ∃ (l : List Tm) (a : Option Addr) (c : Nat), cs = [.slice a (Tm.encL l).length c] ∧ RepC (fun _ => True) W (.sl 4 (Tm.encL l)) [.slice a (Tm.encL l).length c] := by
  obtain ⟨l, a, c, e, hr⟩ := read_slice Tryz.underlying49 cz51 (by decide) bz51 Tm.enc n hel h hw
  subst e
  exact ⟨l, a, c, by rw [Tm.encL_length], by rw [Tm.encL_eq, List.length_map]; exact hr⟩

theorem rd_Tm : ∀ (n : Nat) (cs : List Value) (x : DataW H × List MemPlace), DataW.trod enc Tryz.prog W 0 (fun _ => true) true n 51 cs = some x → (∀ y ∈ x.1.weights Tryz.prog 51, y ≤ reachBytes) →
    ∃ (t : Tm) (a1 : Option Addr) (c1 : Nat), cs = [.int .i64 t.op, .int .i64 t.hd, .int .i64 t.n, .slice a1 (Tm.encL t.args).length c1] ∧ RepC (fun _ => True) W (.sl 4 (Tm.encL t.args)) [.slice a1 (Tm.encL t.args).length c1] := by
  intro n
  induction n using Nat.strongRecOn with
  | ind n ih =>
  intro cs x h hw
  obtain ⟨xs, m, rfl, rfl, hl, hlen, hf⟩ := DataW.trod_struct Tryz.underlying51 h
  match xs, hlen with
  | [y0, y1, y2, y3], _ =>
  rw [cz51] at hl
  match cs, hl with
  | [v0, v1, v2, v3], _ =>
  have h0 : DataW.trod enc Tryz.prog W 0 (fun _ => true) true m 3 (([v0, v1, v2, v3].drop 0).take (Tryz.prog.cellsOf 3)) = some y0 := hf 0 _ rfl
  have h1 : DataW.trod enc Tryz.prog W 0 (fun _ => true) true m 3 (([v0, v1, v2, v3].drop 1).take (Tryz.prog.cellsOf 3)) = some y1 := hf 1 _ rfl
  have h2 : DataW.trod enc Tryz.prog W 0 (fun _ => true) true m 3 (([v0, v1, v2, v3].drop 2).take (Tryz.prog.cellsOf 3)) = some y2 := hf 2 _ rfl
  have h3 : DataW.trod enc Tryz.prog W 0 (fun _ => true) true m 49 (([v0, v1, v2, v3].drop 3).take (Tryz.prog.cellsOf 49)) = some y3 := hf 3 _ rfl
  simp only [cz3, cz49, List.drop_zero, List.drop_succ_cons, List.take_succ_cons, List.take_zero] at h0 h1 h2 h3
  simp only [DataW.weights, Tryz.underlying51, List.map_cons, List.map_nil, DataW.weightsEach, List.append_nil, List.mem_append] at hw
  obtain ⟨f0, e0, _, _⟩ := DataW.trod_int Tryz.underlying3 h0
  obtain ⟨f1, e1, _, _⟩ := DataW.trod_int Tryz.underlying3 h1
  obtain ⟨f2, e2, _, _⟩ := DataW.trod_int Tryz.underlying3 h2
  obtain ⟨f3, a1, c1, e3, r1⟩ := rds_Tm m (fun m' hm' cs' x' h' hw' => by
    obtain ⟨t, a1, c1, rfl, r1⟩ := ih m' (by omega) cs' x' h' hw'
    exact ⟨t, repC_Tm r1⟩) h3 (fun y hy => hw y (.inr (.inr (.inr hy))))
  simp only [List.cons.injEq, and_true] at e0 e1 e2 e3
  subst e0
  subst e1
  subst e2
  subst e3
  exact ⟨.mk f0 f1 f2 f3, a1, c1, rfl, r1⟩

theorem repC_Dc {W : World} {t : Dc} {a1 : Option Addr} {c1 : Nat} (r1 : RepC (fun _ => True) W (.sl 4 (Tm.encL t.cls.args)) [.slice a1 (Tm.encL t.cls.args).length c1]) : RepC (fun _ => True) W t.enc [.string t.name, .int .i64 t.cls.op, .int .i64 t.cls.hd, .int .i64 t.cls.n, .slice a1 (Tm.encL t.cls.args).length c1, .int .i64 t.implicit] := by
  rw [Dc.enc_eq]
  exact ⟨[.string t.name], _, rfl, rfl, [.int .i64 t.cls.op, .int .i64 t.cls.hd, .int .i64 t.cls.n, .slice a1 (Tm.encL t.cls.args).length c1], _, rfl, ⟨[.int .i64 t.cls.op], _, rfl, rfl, [.int .i64 t.cls.hd], _, rfl, rfl, [.int .i64 t.cls.n], _, rfl, rfl, [.slice a1 (Tm.encL t.cls.args).length c1], _, rfl, r1, rfl⟩, [.int .i64 t.implicit], _, rfl, rfl, rfl⟩

theorem bz66 : 1 ≤ Tryz.prog.bytesOf 66 := by decide +kernel

theorem rds_Dc (n : Nat) (hel : ∀ m, m < n → ∀ cs x, DataW.trod enc Tryz.prog W 0 (fun _ => true) true m 66 cs = some x → (∀ y ∈ x.1.weights Tryz.prog 66, y ≤ reachBytes) → ∃ t : Dc, RepC (fun _ => True) W t.enc cs)
    {cs : List Value} {x : DataW H × List MemPlace} (h : DataW.trod enc Tryz.prog W 0 (fun _ => true) true n 22 cs = some x) (hw : ∀ y ∈ x.1.weights Tryz.prog 22, y ≤ reachBytes) :
    ∃ (l : List Dc) (a : Option Addr) (c : Nat), cs = [.slice a (Dc.encL l).length c] ∧ RepC (fun _ => True) W (.sl 6 (Dc.encL l)) [.slice a (Dc.encL l).length c] := by
  obtain ⟨l, a, c, e, hr⟩ := read_slice Tryz.underlying22 cz66 (by decide) bz66 Dc.enc n hel h hw
  subst e
  exact ⟨l, a, c, by rw [Dc.encL_length], by rw [Dc.encL_eq, List.length_map]; exact hr⟩

theorem rd_Dc : ∀ (n : Nat) (cs : List Value) (x : DataW H × List MemPlace), DataW.trod enc Tryz.prog W 0 (fun _ => true) true n 66 cs = some x → (∀ y ∈ x.1.weights Tryz.prog 66, y ≤ reachBytes) →
    ∃ (t : Dc) (a1 : Option Addr) (c1 : Nat), cs = [.string t.name, .int .i64 t.cls.op, .int .i64 t.cls.hd, .int .i64 t.cls.n, .slice a1 (Tm.encL t.cls.args).length c1, .int .i64 t.implicit] ∧ RepC (fun _ => True) W (.sl 4 (Tm.encL t.cls.args)) [.slice a1 (Tm.encL t.cls.args).length c1] := by
  intro n
  intro cs x h hw
  obtain ⟨xs, m, rfl, rfl, hl, hlen, hf⟩ := DataW.trod_struct Tryz.underlying66 h
  match xs, hlen with
  | [y0, y1, y2], _ =>
  rw [cz66] at hl
  match cs, hl with
  | [v0, v1, v2, v3, v4, v5], _ =>
  have h0 : DataW.trod enc Tryz.prog W 0 (fun _ => true) true m 9 (([v0, v1, v2, v3, v4, v5].drop 0).take (Tryz.prog.cellsOf 9)) = some y0 := hf 0 _ rfl
  have h1 : DataW.trod enc Tryz.prog W 0 (fun _ => true) true m 51 (([v0, v1, v2, v3, v4, v5].drop 1).take (Tryz.prog.cellsOf 51)) = some y1 := hf 1 _ rfl
  have h2 : DataW.trod enc Tryz.prog W 0 (fun _ => true) true m 3 (([v0, v1, v2, v3, v4, v5].drop 5).take (Tryz.prog.cellsOf 3)) = some y2 := hf 2 _ rfl
  simp only [cz3, cz51, cz9, List.drop_zero, List.drop_succ_cons, List.take_succ_cons, List.take_zero] at h0 h1 h2
  simp only [DataW.weights, Tryz.underlying66, List.map_cons, List.map_nil, DataW.weightsEach, List.append_nil, List.mem_append] at hw
  obtain ⟨f0, e0, _, _⟩ := DataW.trod_string Tryz.underlying9 h0
  obtain ⟨f1, a1, c1, e1, r1⟩ := rd_Tm m _ _ h1 (fun y hy => hw y (.inr (.inl hy)))
  obtain ⟨f2, e2, _, _⟩ := DataW.trod_int Tryz.underlying3 h2
  simp only [List.cons.injEq, and_true] at e0 e1 e2
  subst e0
  obtain ⟨rfl, rfl, rfl, rfl⟩ := e1
  subst e2
  exact ⟨.mk f0 f1 f2, a1, c1, rfl, r1⟩

theorem rdl_Dc (n : Nat) (cs : List Value) (x : DataW H × List MemPlace) (h : DataW.trod enc Tryz.prog W 0 (fun _ => true) true n 22 cs = some x) (hw : ∀ y ∈ x.1.weights Tryz.prog 22, y ≤ reachBytes) :
    ∃ (l : List Dc) (a : Option Addr) (c : Nat), cs = [.slice a (Dc.encL l).length c] ∧ RepC (fun _ => True) W (.sl 6 (Dc.encL l)) [.slice a (Dc.encL l).length c] :=
  rds_Dc n (fun m' _ cs' x' h' hw' => by
    obtain ⟨t, a1, c1, rfl, r1⟩ := rd_Dc m' cs' x' h' hw'
    exact ⟨t, repC_Dc r1⟩) h hw

theorem argl_Dc {base : Nat} {v : Value} {d : DataW H} {p : List MemPlace} (hok : Value.okWide Tryz.prog W .any base 22 v) (h : DataW.Trod enc Tryz.prog W 0 (fun _ => true) true 22 v d p) (hw : ∀ y ∈ d.weights Tryz.prog 22, y ≤ reachBytes) :
    ∃ (l : List Dc) (a : Option Addr) (c : Nat), v = .slice a (Dc.encL l).length c ∧ Rep (fun _ => True) W (.slice a (Dc.encL l).length c) (.sl 6 (Dc.encL l)) := by
  obtain ⟨a0, l0, c0, rfl⟩ := okWide_slice Tryz.underlying22 hok
  obtain ⟨n, hn⟩ := h
  obtain ⟨l, a, c, e, hr⟩ := rdl_Dc n _ _ hn hw
  simp only [Value.cells, List.cons.injEq, and_true] at e
  exact ⟨l, a, c, e, hr⟩

theorem repC_Od {W : World} {t : Od} {a1 : Option Addr} {c1 : Nat} (r1 : RepC (fun _ => True) W (.sl 3 (Od.encL t.parts)) [.slice a1 (Od.encL t.parts).length c1]) : RepC (fun _ => True) W t.enc [.int .i64 t.op, .int .i64 t.n, .slice a1 (Od.encL t.parts).length c1] := by
  rw [Od.enc_eq]
  exact ⟨[.int .i64 t.op], _, rfl, rfl, [.int .i64 t.n], _, rfl, rfl, [.slice a1 (Od.encL t.parts).length c1], _, rfl, r1, rfl⟩

theorem bz27 : 1 ≤ Tryz.prog.bytesOf 27 := by decide +kernel

theorem rds_Od (n : Nat) (hel : ∀ m, m < n → ∀ cs x, DataW.trod enc Tryz.prog W 0 (fun _ => true) true m 27 cs = some x → (∀ y ∈ x.1.weights Tryz.prog 27, y ≤ reachBytes) → ∃ t : Od, RepC (fun _ => True) W t.enc cs)
    {cs : List Value} {x : DataW H × List MemPlace} (h : DataW.trod enc Tryz.prog W 0 (fun _ => true) true n 25 cs = some x) (hw : ∀ y ∈ x.1.weights Tryz.prog 25, y ≤ reachBytes) :
    ∃ (l : List Od) (a : Option Addr) (c : Nat), cs = [.slice a (Od.encL l).length c] ∧ RepC (fun _ => True) W (.sl 3 (Od.encL l)) [.slice a (Od.encL l).length c] := by
  obtain ⟨l, a, c, e, hr⟩ := read_slice Tryz.underlying25 cz27 (by decide) bz27 Od.enc n hel h hw
  subst e
  exact ⟨l, a, c, by rw [Od.encL_length], by rw [Od.encL_eq, List.length_map]; exact hr⟩

theorem rd_Od : ∀ (n : Nat) (cs : List Value) (x : DataW H × List MemPlace), DataW.trod enc Tryz.prog W 0 (fun _ => true) true n 27 cs = some x → (∀ y ∈ x.1.weights Tryz.prog 27, y ≤ reachBytes) →
    ∃ (t : Od) (a1 : Option Addr) (c1 : Nat), cs = [.int .i64 t.op, .int .i64 t.n, .slice a1 (Od.encL t.parts).length c1] ∧ RepC (fun _ => True) W (.sl 3 (Od.encL t.parts)) [.slice a1 (Od.encL t.parts).length c1] := by
  intro n
  induction n using Nat.strongRecOn with
  | ind n ih =>
  intro cs x h hw
  obtain ⟨xs, m, rfl, rfl, hl, hlen, hf⟩ := DataW.trod_struct Tryz.underlying27 h
  match xs, hlen with
  | [y0, y1, y2], _ =>
  rw [cz27] at hl
  match cs, hl with
  | [v0, v1, v2], _ =>
  have h0 : DataW.trod enc Tryz.prog W 0 (fun _ => true) true m 3 (([v0, v1, v2].drop 0).take (Tryz.prog.cellsOf 3)) = some y0 := hf 0 _ rfl
  have h1 : DataW.trod enc Tryz.prog W 0 (fun _ => true) true m 3 (([v0, v1, v2].drop 1).take (Tryz.prog.cellsOf 3)) = some y1 := hf 1 _ rfl
  have h2 : DataW.trod enc Tryz.prog W 0 (fun _ => true) true m 25 (([v0, v1, v2].drop 2).take (Tryz.prog.cellsOf 25)) = some y2 := hf 2 _ rfl
  simp only [cz25, cz3, List.drop_zero, List.drop_succ_cons, List.take_succ_cons, List.take_zero] at h0 h1 h2
  simp only [DataW.weights, Tryz.underlying27, List.map_cons, List.map_nil, DataW.weightsEach, List.append_nil, List.mem_append] at hw
  obtain ⟨f0, e0, _, _⟩ := DataW.trod_int Tryz.underlying3 h0
  obtain ⟨f1, e1, _, _⟩ := DataW.trod_int Tryz.underlying3 h1
  obtain ⟨f2, a1, c1, e2, r1⟩ := rds_Od m (fun m' hm' cs' x' h' hw' => by
    obtain ⟨t, a1, c1, rfl, r1⟩ := ih m' (by omega) cs' x' h' hw'
    exact ⟨t, repC_Od r1⟩) h2 (fun y hy => hw y (.inr (.inr hy)))
  simp only [List.cons.injEq, and_true] at e0 e1 e2
  subst e0
  subst e1
  subst e2
  exact ⟨.mk f0 f1 f2, a1, c1, rfl, r1⟩

theorem repC_Me {W : World} {t : Me} {a1 : Option Addr} {c1 : Nat} (r1 : RepC (fun _ => True) W (.sl 3 (Od.encL t.order.parts)) [.slice a1 (Od.encL t.order.parts).length c1]) : RepC (fun _ => True) W t.enc [.int .i64 t.family, .int .i64 t.order.op, .int .i64 t.order.n, .slice a1 (Od.encL t.order.parts).length c1] := by
  rw [Me.enc_eq]
  exact ⟨[.int .i64 t.family], _, rfl, rfl, [.int .i64 t.order.op, .int .i64 t.order.n, .slice a1 (Od.encL t.order.parts).length c1], _, rfl, ⟨[.int .i64 t.order.op], _, rfl, rfl, [.int .i64 t.order.n], _, rfl, rfl, [.slice a1 (Od.encL t.order.parts).length c1], _, rfl, r1, rfl⟩, rfl⟩

theorem bz29 : 1 ≤ Tryz.prog.bytesOf 29 := by decide +kernel

theorem rds_Me (n : Nat) (hel : ∀ m, m < n → ∀ cs x, DataW.trod enc Tryz.prog W 0 (fun _ => true) true m 29 cs = some x → (∀ y ∈ x.1.weights Tryz.prog 29, y ≤ reachBytes) → ∃ t : Me, RepC (fun _ => True) W t.enc cs)
    {cs : List Value} {x : DataW H × List MemPlace} (h : DataW.trod enc Tryz.prog W 0 (fun _ => true) true n 23 cs = some x) (hw : ∀ y ∈ x.1.weights Tryz.prog 23, y ≤ reachBytes) :
    ∃ (l : List Me) (a : Option Addr) (c : Nat), cs = [.slice a (Me.encL l).length c] ∧ RepC (fun _ => True) W (.sl 4 (Me.encL l)) [.slice a (Me.encL l).length c] := by
  obtain ⟨l, a, c, e, hr⟩ := read_slice Tryz.underlying23 cz29 (by decide) bz29 Me.enc n hel h hw
  subst e
  exact ⟨l, a, c, by rw [Me.encL_length], by rw [Me.encL_eq, List.length_map]; exact hr⟩

theorem rd_Me : ∀ (n : Nat) (cs : List Value) (x : DataW H × List MemPlace), DataW.trod enc Tryz.prog W 0 (fun _ => true) true n 29 cs = some x → (∀ y ∈ x.1.weights Tryz.prog 29, y ≤ reachBytes) →
    ∃ (t : Me) (a1 : Option Addr) (c1 : Nat), cs = [.int .i64 t.family, .int .i64 t.order.op, .int .i64 t.order.n, .slice a1 (Od.encL t.order.parts).length c1] ∧ RepC (fun _ => True) W (.sl 3 (Od.encL t.order.parts)) [.slice a1 (Od.encL t.order.parts).length c1] := by
  intro n
  intro cs x h hw
  obtain ⟨xs, m, rfl, rfl, hl, hlen, hf⟩ := DataW.trod_struct Tryz.underlying29 h
  match xs, hlen with
  | [y0, y1], _ =>
  rw [cz29] at hl
  match cs, hl with
  | [v0, v1, v2, v3], _ =>
  have h0 : DataW.trod enc Tryz.prog W 0 (fun _ => true) true m 3 (([v0, v1, v2, v3].drop 0).take (Tryz.prog.cellsOf 3)) = some y0 := hf 0 _ rfl
  have h1 : DataW.trod enc Tryz.prog W 0 (fun _ => true) true m 27 (([v0, v1, v2, v3].drop 1).take (Tryz.prog.cellsOf 27)) = some y1 := hf 1 _ rfl
  simp only [cz27, cz3, List.drop_zero, List.drop_succ_cons, List.take_succ_cons, List.take_zero] at h0 h1
  simp only [DataW.weights, Tryz.underlying29, List.map_cons, List.map_nil, DataW.weightsEach, List.append_nil, List.mem_append] at hw
  obtain ⟨f0, e0, _, _⟩ := DataW.trod_int Tryz.underlying3 h0
  obtain ⟨f1, a1, c1, e1, r1⟩ := rd_Od m _ _ h1 (fun y hy => hw y (.inr hy))
  simp only [List.cons.injEq, and_true] at e0 e1
  subst e0
  obtain ⟨rfl, rfl, rfl⟩ := e1
  exact ⟨.mk f0 f1, a1, c1, rfl, r1⟩

theorem rdl_Me (n : Nat) (cs : List Value) (x : DataW H × List MemPlace) (h : DataW.trod enc Tryz.prog W 0 (fun _ => true) true n 23 cs = some x) (hw : ∀ y ∈ x.1.weights Tryz.prog 23, y ≤ reachBytes) :
    ∃ (l : List Me) (a : Option Addr) (c : Nat), cs = [.slice a (Me.encL l).length c] ∧ RepC (fun _ => True) W (.sl 4 (Me.encL l)) [.slice a (Me.encL l).length c] :=
  rds_Me n (fun m' _ cs' x' h' hw' => by
    obtain ⟨t, a1, c1, rfl, r1⟩ := rd_Me m' cs' x' h' hw'
    exact ⟨t, repC_Me r1⟩) h hw

theorem argl_Me {base : Nat} {v : Value} {d : DataW H} {p : List MemPlace} (hok : Value.okWide Tryz.prog W .any base 23 v) (h : DataW.Trod enc Tryz.prog W 0 (fun _ => true) true 23 v d p) (hw : ∀ y ∈ d.weights Tryz.prog 23, y ≤ reachBytes) :
    ∃ (l : List Me) (a : Option Addr) (c : Nat), v = .slice a (Me.encL l).length c ∧ Rep (fun _ => True) W (.slice a (Me.encL l).length c) (.sl 4 (Me.encL l)) := by
  obtain ⟨a0, l0, c0, rfl⟩ := okWide_slice Tryz.underlying23 hok
  obtain ⟨n, hn⟩ := h
  obtain ⟨l, a, c, e, hr⟩ := rdl_Me n _ _ hn hw
  simp only [Value.cells, List.cons.injEq, and_true] at e
  exact ⟨l, a, c, e, hr⟩

end
end Go.Proofs.YtpibdcjdamibdaaGreat
end

/-! Gm -/
section
namespace Go.Tr
open Go
set_option maxRecDepth 10000

/-- An entry: what it is, and where its slice lies. -/
abbrev GE (α : Type) : Type := α × Option Addr × Nat
/-- Without places. -/
def er {κ α : Type} (g : List (κ × GE α)) : List (κ × α) := g.map fun p => (p.1, p.2.1)

theorem mget_er {κ α : Type} [DecidableEq κ] (k : κ) : ∀ g : List (κ × GE α), mget (er g) k = (mget g k).map (·.1)
  | [] => rfl
  | (k', v) :: r => by
    have ih := mget_er k r
    simp only [er] at ih
    simp only [er, List.map_cons, mget]
    split
    · rfl
    · exact ih
theorem er_mput {κ α : Type} [DecidableEq κ] (k : κ) (v : GE α) : ∀ g : List (κ × GE α), er (mput k v g) = mput k v.1 (er g)
  | [] => rfl
  | (k', u) :: r => by
    have ih := er_mput k v r
    simp only [er] at ih
    simp only [er, List.map_cons, mput]
    split
    · rfl
    · simp only [List.map_cons, ih]

/-- What reads as a slice. -/
abbrev slR (k : Nat) (ds : List D) (a : Option Addr) (c : Nat) : Value × D := (.slice a ds.length c, .sl k ds)

/-- All slices of the entries of a map. -/
def agV {κ α : Type} (_k : Nat) (p : α → List D) (g : List (κ × GE α)) : Value := .agg (g.map fun x => Value.slice x.2.2.1 (p x.2.1).length x.2.2.2).toArray
def agD {κ α : Type} (k : Nat) (p : α → List D) (g : List (κ × GE α)) : D := .agg (g.map fun x => .sl k (p x.2.1))

def AllR {κ α : Type} (J : Nat → Prop) (w : World) (k : Nat) (p : α → List D) (g : List (κ × GE α)) : Prop := ∀ x ∈ g, RepC J w (.sl k (p x.2.1)) [.slice x.2.2.1 (p x.2.1).length x.2.2.2]

theorem ag_iff {κ α : Type} {J : Nat → Prop} {w : World} (k : Nat) (p : α → List D) : ∀ (g : List (κ × GE α)), Rep J w (agV k p g) (agD k p g) ↔ AllR J w k p g := by
  have key : ∀ (g : List (κ × GE α)), RepA J w (g.map fun x => D.sl k (p x.2.1)) (g.map fun x => Value.slice x.2.2.1 (p x.2.1).length x.2.2.2) ↔ AllR J w k p g := by
    intro g
    induction g with
    | nil => simp [RepA, AllR]
    | cons x g ih =>
      simp only [List.map_cons, RepA]
      constructor
      · rintro ⟨u, v, h1, h2, h3⟩
        have hu : ∃ c, u = [c] := by
          simp only [RepC] at h2
          obtain ⟨a, cap, e, _⟩ := h2
          exact ⟨_, e⟩
        obtain ⟨c, rfl⟩ := hu
        simp only [List.singleton_append, List.cons.injEq] at h1
        obtain ⟨rfl, rfl⟩ := h1
        intro y hy
        rcases List.mem_cons.1 hy with rfl | hy
        · exact h2
        · exact ih.1 h3 y hy
      · intro h
        exact ⟨[_], _, rfl, h x (List.mem_cons_self ..), ih.2 (fun y hy => h y (List.mem_cons_of_mem _ hy))⟩
  intro g
  simp only [agV, agD, Rep]
  constructor
  · rintro ⟨cs, h1, h2⟩
    simp only [Value.agg.injEq] at h1
    subst h1
    exact (key g).1 h2
  · intro h
    exact ⟨_, rfl, (key g).2 h⟩

theorem AllR.get {κ α : Type} [DecidableEq κ] {J : Nat → Prop} {w : World} {k : Nat} {p : α → List D} {n : κ} {v : GE α} : ∀ {g : List (κ × GE α)}, AllR J w k p g → mget g n = some v → RepC J w (.sl k (p v.1)) [.slice v.2.1 (p v.1).length v.2.2]
  | [], _, h => by cases h
  | (k', u) :: r, hA, h => by
    simp only [mget] at h
    split at h
    · simp only [Option.some.injEq] at h; subst h; exact hA _ (List.mem_cons_self ..)
    · exact AllR.get (g := r) (fun y hy => hA y (List.mem_cons_of_mem _ hy)) h

theorem AllR.put {κ α : Type} [DecidableEq κ] {J : Nat → Prop} {w : World} {k : Nat} {p : α → List D} {n : κ} {v : GE α} (hv : RepC J w (.sl k (p v.1)) [.slice v.2.1 (p v.1).length v.2.2]) : ∀ {g : List (κ × GE α)}, AllR J w k p g → AllR J w k p (mput n v g)
  | [], _ => by
    intro x hx
    simp only [mput, List.mem_singleton] at hx
    subst hx; exact hv
  | (k', u) :: r, hA => by
    have hr : AllR J w k p r := fun y hy => hA y (List.mem_cons_of_mem _ hy)
    simp only [mput]
    split
    · intro x hx
      rcases List.mem_cons.1 hx with rfl | hx
      · exact hv
      · exact hr x hx
    · intro x hx
      rcases List.mem_cons.1 hx with rfl | hx
      · exact hA _ (List.mem_cons_self ..)
      · exact AllR.put hv hr x hx

/-- A map is made; nothing is known of no entries. -/
theorem at_makeMapG {P : Program} {t : TypeId} (q : IntKind) {α : Type} (f : GE α → Value) (k : Nat) (p : α → List D) {S : St} {K : SV → St → Prop} (h : forceL (S.own ++ [.obj (mapO q (encM f []))]) (fun own => putOwn S own (fun S' => addReps S' [(agV k p ([] : List (Int × GE α)), agD k p ([] : List (Int × GE α)))] (fun S'' => K (.mp S.own.length) S'')))) : AtSem P (fun ℓ => Instr.makeMap t (denO ℓ none)) S K := by
  rw [forceL_eq, putOwn_eq, addReps_eq] at h
  constructor
  intro J ℓ w hG hJ
  obtain ⟨r, ℓ', S', w', a1, a2, a3, a4, a5, a6, a7⟩ := (at_makeMap (P := P) (t := t) (S := S) (K := fun v S' => v = .mp S.own.length ∧ S' = ⟨S.own ++ [.obj (mapO q [])], S.accs, S.reps⟩) q (by rw [forceL_eq, putOwn_eq]; exact ⟨rfl, rfl⟩)).sem J ℓ w hG hJ
  obtain ⟨rfl, rfl⟩ := a7
  have a5' : Good J ℓ' ⟨S.own ++ [.obj (mapO q (encM f ([] : List (Int × GE α))))], S.accs, S.reps⟩ w' := a5
  exact ⟨_, ℓ', ⟨S.own ++ [.obj (mapO q (encM f ([] : List (Int × GE α))))], S.accs, S.reps ++ [(agV k p ([] : List (Int × GE α)), agD k p ([] : List (Int × GE α)))]⟩, w', a1, a2, a3, a4, a5'.reps_add _ (by
    intro x hx
    simp only [List.mem_singleton] at hx
    subst hx
    exact (ag_iff (κ := Int) k p []).2 (by intro x hx; cases hx)), a6, h⟩

/-- m[n]: what is found, and what is known of its slice. -/
theorem at_lookupGE {P : Program} {tt : Tab} (hT : TTOK P tt) {α : Type} (f : GE α → Value) (mk : α → Option Addr → Nat → SV) (k : Nat) (p : α → List D) (z : α) (zv : Value) (j : Nat) {t ki e : TypeId} {q : IntKind} {x ix : SV} {S : St} {K : SV → St → Prop} {i : Nat} {n : Int} {g : List (Int × GE α)} {ok : Bool} (ht : tt t = some (.map ki e)) (hk : P.underlying ki = some (.int q)) (hz : ∀ w, (zeroValue e).run P w = .ok zv w)
    (hzf : zv = f (z, none, 0)) (hp : p z = []) (hmk : ∀ v a c ℓ, (mk v a c).den ℓ = f (v, a, c)) (hwf : ∀ v a c m, (mk v a c).wf m = true)
    (hx : x = .mp i) (hi : nth S.own i = some (.obj (mapO q (encM f g)))) (hix : ix = .v (.int q n)) (hj : nth S.reps j = some (agV k p g, agD k p g))
    (h : ∀ a c, addReps S [slR k (p ((mget (er g) n).getD z)) a c] (fun S' => K (match ok with
      | true => .tup [mk ((mget (er g) n).getD z) a c, .v (.bool (mget (er g) n).isSome)]
      | false => mk ((mget (er g) n).getD z) a c) S')) : AtSem P (fun ℓ => Instr.lookup t (x.den ℓ) (ix.den ℓ) ok) S K := by
  simp only [addReps_eq] at h
  constructor
  intro J ℓ w hG hJ
  have hrep := hG.reps _ (nth_mem (j := j) hj)
  rw [ag_iff] at hrep
  obtain ⟨r, ℓ', S', w', a1, a2, a3, a4, a5, a6, a7⟩ := (at_lookup hT (P := P) (S := S) (ok := ok) (K := fun v S' => S' = S ∧ ∀ ℓ, v.den ℓ = (match ok with
      | true => SV.tup [mk ((mget (er g) n).getD z) (((mget g n).map (fun u : GE α => u.2.1)).getD none) (((mget g n).map (fun u : GE α => u.2.2)).getD 0), .v (.bool (mget (er g) n).isSome)]
      | false => mk ((mget (er g) n).getD z) (((mget g n).map (fun u : GE α => u.2.1)).getD none) (((mget g n).map (fun u : GE α => u.2.2)).getD 0)).den ℓ) (l := encM f g) (n := n) (i := i) zv ht hk hz hx hi hix (by
    intro v hv
    rw [lookM_enc, Option.map_eq_some_iff] at hv
    obtain ⟨u, hu, rfl⟩ := hv
    refine ⟨rfl, fun ℓ => ?_⟩
    rw [mget_er, hu]
    cases ok <;> simp [SV.den, SV.denL, hmk]) (by
    intro hv
    rw [lookM_enc, Option.map_eq_none_iff] at hv
    refine ⟨rfl, fun ℓ => ?_⟩
    rw [mget_er, hv]
    cases ok <;> simp [SV.den, SV.denL, hmk, hzf])).sem J ℓ w hG hJ
  obtain ⟨rfl, hden⟩ := a7
  refine ⟨_, ℓ', _, w', a1.trans (congrArg (fun x => Result.ok x w') (hden ℓ')), ?_, a3, a4, a5.reps_add _ ?_, a6, h (((mget g n).map (fun u : GE α => u.2.1)).getD none) (((mget g n).map (fun u : GE α => u.2.2)).getD 0)⟩
  · cases ok <;> simp [SV.wf, SV.wfL, hwf]
  · intro y hy
    simp only [List.mem_singleton] at hy
    subst hy
    have hrep' := a5.reps _ (nth_mem (j := j) hj)
    rw [ag_iff] at hrep'
    rw [mget_er]
    cases hg : mget g n with
    | none =>
      simp only [Option.map_none, Option.getD_none, Rep, RepC, hp]
      exact ⟨none, 0, rfl, by simp, by simp⟩
    | some u =>
      simp only [Option.map_some, Option.getD_some, Rep]
      exact hrep'.get hg

/-- m[n] = x. -/
theorem at_mapPutGE {P : Program} {tt : Tab} (hT : TTOK P tt) {α : Type} (f : GE α → Value) (k : Nat) (p : α → List D) (v : α) (a : Option Addr) (c : Nat) (j j2 : Nat) {t ki e : TypeId} {q : IntKind} {x ix y : SV} {S : St} {K : SV → St → Prop} {i : Nat} {n : Int} {g : List (Int × GE α)} {ds : List D} (ht : tt t = some (.map ki e)) (hk : P.underlying ki = some (.int q))
    (hx : x = .mp i) (hi : nth S.own i = some (.obj (mapO q (encM f g)))) (hix : ix = .v (.int q n)) (hy : ∀ ℓ, y.den ℓ = f (v, a, c)) (hj : nth S.reps j = some (agV k p g, agD k p g)) (hds : p v = ds) (hj2 : nth S.reps j2 = some (.slice a ds.length c, .sl k ds))
    (h : forceL (setNth S.own i (.obj (mapO q (encM f (mput n (v, a, c) g))))) (fun own => forceL (setNth S.reps j (agV k p (mput n (v, a, c) g), agD k p (mput n (v, a, c) g))) (fun reps => K undefS ⟨own, S.accs, reps⟩))) : AtSem P (fun ℓ => do Instr.mapUpdate t (x.den ℓ) (ix.den ℓ) (y.den ℓ); pure undef) S K := by
  simp only [forceL_eq] at h
  subst hds
  constructor
  intro J ℓ w hG hJ
  obtain ⟨r, ℓ', S', w', a1, a2, a3, a4, a5, a6, a7⟩ := (at_mapPut hT (P := P) (S := S) (K := fun r S' => r = undefS ∧ S' = ⟨setNth S.own i (.obj (mapO q (encM f (mput n (v, a, c) g)))), S.accs, S.reps⟩) (l := encM f g) (n := n) (i := i) (f (v, a, c)) ht hk hx hi hix hy (by
    rw [forceL_eq, putOwn_eq, putAt_enc]; exact ⟨rfl, rfl⟩)).sem J ℓ w hG hJ
  obtain ⟨rfl, rfl⟩ := a7
  have hrep := a5.reps _ (nth_mem (j := j) hj)
  rw [ag_iff] at hrep
  have hrv := a5.reps _ (nth_mem (j := j2) hj2)
  simp only [Rep] at hrv
  refine ⟨_, ℓ', ⟨setNth S.own i (.obj (mapO q (encM f (mput n (v, a, c) g)))), S.accs, setNth S.reps j (agV k p (mput n (v, a, c) g), agD k p (mput n (v, a, c) g))⟩, w', a1, a2, a3, a4, ⟨a5.len, a5.nodup, a5.lt, a5.memJ, a5.wf, a5.own, a5.accs, ?_⟩, a6, h⟩
  intro y hy
  rcases List.mem_or_eq_of_mem_set hy with h1 | h1
  · exact a5.reps y h1
  · subst h1
    exact (ag_iff k p _).2 (AllR.put hrv hrep)

/-- A field of a struct value. -/
theorem at_field {P : Program} {t : TypeId} {f : Nat} {fs : Array Field} {fd : Field} {cells : List SV} {sx v : SV} {S : St} {K : SV → St → Prop} (hu : P.underlying t = some (.struct fs)) (hfd : fs[f]? = some fd) (hagg : ∀ w, (isAgg fd.type).run P w = .ok false w) (hx : sx = .agg cells) (hv : nth cells fd.offset = some v) (hwf : v.wf S.own.length = true)
    (h : K v S) : AtPure P (fun ℓ => Instr.field t (sx.den ℓ) f) S K := by
  subst hx
  constructor
  intro J ℓ w hG hJ
  refine ⟨v, ℓ, S, fun w' => ?_, hwf, List.prefix_refl _, hG, fun b hb => hb, fun _ _ h => h, h⟩
  have hg : (SV.denL ℓ cells)[fd.offset]? = some (v.den ℓ) := by rw [denL_get, ← nth_eq, hv]; rfl
  simp only [Instr.field, SV.den, Sem.run_bind, run_underlying hu, Result.andThen_ok, hfd, asAgg, Sem.run_pure, part, hagg, Bool.false_eq_true, if_false, List.getElem?_toArray, hg]

end Go.Tr
end

/-! HandO -/
section
namespace Go.Proofs.YtpibdcjdamibdaaGreat
open Go.Tr Go
set_option maxRecDepth 10000

theorem compareG (c : Cmp) (a b : Tm) (a1 a2 : Option Addr) (c1 c2 : Nat) (hl : lamOK b = true) (hh : b.height ≤ 1000000) :
    Pure Tryz.prog (fnS 40) [.agg [iS c.n, iS c.fixed], tmS a a1 c1, tmS b a2 c2] [tmR a a1 c1, tmR b a2 c2] (fun r out => r = iS (compareF c.fixed a b) ∧ out = []) :=
  compare_spec c.n c.fixed a b a1 a2 c1 c2 hl hh

theorem refCompareG (fx : Int) (a b : Tm) (a1 a2 : Option Addr) (c1 c2 : Nat) (h : decide (okAll a = true ∧ a.height ≤ 1000000 ∧ okAll b = true ∧ b.height ≤ 1000000 ∧ (0 : Int) ≤ fx ∧ fx ≤ (1000000 : Int)) = true) :
    Pure Tryz.prog (fnS 95) [iS fx, tmS a a1 c1, tmS b a2 c2] [tmR a a1 c1, tmR b a2 c2] (fun r out => r = iS (cmpF fx a b) ∧ out = []) := by
  obtain ⟨h1, h2, h3, h4, h5, h6⟩ := of_decide_eq_true h
  exact refCompare_spec fx a b a1 a2 c1 c2 h1 h2 h3 h4 h5 h6

theorem similar0 (a b : Od) (a1 : Option Addr) (c1 : Nat) (a2 : Option Addr) (c2 : Nat) : Pure Tryz.prog (fnS 21) [odS a a1 c1, odS b a2 c2] [odR a a1 c1, odR b a2 c2] (fun r out => r = bS (simF a b) ∧ out = []) := similar_spec a b a1 a2 c1 c2
theorem refSimilar0 (a b : Od) (a1 : Option Addr) (c1 : Nat) (a2 : Option Addr) (c2 : Nat) : Pure Tryz.prog (fnS 61) [odS a a1 c1, odS b a2 c2] [odR a a1 c1, odR b a2 c2] (fun r out => r = bS (simF a b) ∧ out = []) := refSimilar_spec a b a1 a2 c1 c2
end Go.Proofs.YtpibdcjdamibdaaGreat
end

/-! HandF -/
section
namespace Go.Proofs.YtpibdcjdamibdaaGreat
open Go.Tr Go
set_option maxRecDepth 10000

/-- What term.Free answers. -/
def freeL (t : Tm) : List Int := if isProper t = true then numsOf freeOf t else []
def freeE (t : Tm) : Int := if isProper t = true then 0 else 2

theorem free0 (t : Tm) (a : Option Addr) (c : Nat) :
    Pure Tryz.prog (fnS 66) [tmS t a c] [tmR t a c]
      (fun r out => ∃ (b1 : Option Addr) (d1 : Nat), r = .tup [.v (.slice b1 (List.map (D.int .i64) (freeL t)).length d1), iS (freeE t)] ∧ out = [(.slice b1 (List.map (D.int .i64) (freeL t)).length d1, .sl 1 (List.map (D.int .i64) (freeL t)))]) := by
  refine spec_of_body (N := 8) (m := 0) (dt := fun _ => none) [] ttOK Tryz.func66 rfl Tryz.call66 Tryz.ntmps66 rfl rfl rfl mixed (by kernel_rfl) ?_
  refine (numbers_spec 97 freeOf free1_spec t a c).opened.at (by simp) rfl rfl ?_
  rintro r out ⟨⟨hp, rfl, rfl⟩ | ⟨hp, v, rfl, rfl⟩, ho⟩
  · have e1 : freeL t = [] := by rw [freeL, hp]; rfl
    have e2 : freeE t = 2 := by rw [freeE, hp]; rfl
    rw [e1, e2]
    exact AtRet.pureG [.nil 1] [(.slice none 0 0, .sl 1 [])] rfl rfl ⟨none, 0, rfl, rfl⟩
  · have e1 : freeL t = numsOf freeOf t := by rw [freeL, if_pos hp]
    have e2 : freeE t = 0 := by rw [freeE, if_pos hp]
    obtain ⟨a', c', rfl, hle, hle2⟩ := ho _ (List.mem_singleton.2 rfl)
    rw [e1, e2]
    exact AtRet.pureG [.old 1] _ rfl rfl ⟨a', c', rfl, rfl⟩

end Go.Proofs.YtpibdcjdamibdaaGreat
end

/-! Awake -/
section
namespace Go.Proofs.YtpibdcjdamibdaaGreat
open Go.Tr Go
set_option maxRecDepth 10000

def tmX : Tm := .mk 4 1 0 []
def tmC : Tm := .mk 4 2 2 [tmX]

theorem cmpXC : compareE 1 0 tmX tmC = (2, 0) := by rw [compareE_eq]; decide +kernel
theorem cmpCC : compareE 1 0 tmC tmC = (1, 0) := by rw [compareE_eq]; decide +kernel
theorem cmpCX : compareE 1 0 tmC tmX = (0, 0) := by rw [compareE_eq]; decide +kernel

theorem awake_spec : Pure Tryz.prog (fnS 5) [] [] (fun r out => r = bS true ∧ out = []) := by
  refine Meets.nilRep 3 ?_
  refine Meets.nilRep 4 ?_
  refine spec_of_body (N := 59) (m := 0) (dt := fun _ => none) [] ttOK Tryz.func5 rfl Tryz.call5 Tryz.ntmps5 rfl rfl rfl mixed (by kernel_rfl) ?_
  refine (app_spec 1 0 [] none 0).at (by simp) rfl rfl ?_
  rintro r out ⟨rfl, rfl⟩
  refine at_build ttOK 48 [tmX.enc] rfl (by kernel_rfl) ⟨⟨rfl, rfl, rfl, RepS_tm (t := tmX) (a := none) (c := 0) (List.mem_cons_self ..)⟩, trivial⟩ rfl (by decide) (by decide) ?_
  intro a
  refine (app_spec 2 2 [tmX] a 1).at (by simp) rfl rfl ?_
  rintro r out ⟨rfl, rfl⟩
  refine (Compare_spec 1 0 tmX tmC none a 0 1).at ?_ rfl rfl ?_
  · intro p hp
    simp only [List.mem_cons, List.not_mem_nil, or_false] at hp
    rcases hp with rfl | rfl
    · exact List.mem_cons_self ..
    · exact List.mem_cons_of_mem _ (List.mem_cons_of_mem _ (List.mem_cons_self ..))
  rw [cmpXC]
  rintro r out ⟨rfl, rfl⟩
  refine (Compare_spec 1 0 tmC tmC a a 1 1).at ?_ rfl rfl ?_
  · intro p hp
    simp only [List.mem_cons, List.not_mem_nil, or_false] at hp
    rcases hp with rfl | rfl
    · exact List.mem_cons_of_mem _ (List.mem_cons_of_mem _ (List.mem_cons_self ..))
    · exact List.mem_cons_of_mem _ (List.mem_cons_of_mem _ (List.mem_cons_self ..))
  rw [cmpCC]
  rintro r out ⟨rfl, rfl⟩
  refine (Compare_spec 1 0 tmC tmX a none 1 0).at ?_ rfl rfl ?_
  · intro p hp
    simp only [List.mem_cons, List.not_mem_nil, or_false] at hp
    rcases hp with rfl | rfl
    · exact List.mem_cons_of_mem _ (List.mem_cons_of_mem _ (List.mem_cons_self ..))
    · exact List.mem_cons_self ..
  rw [cmpCX]
  rintro r out ⟨rfl, rfl⟩
  refine AtGuard.mk (fun _ => ?_) (fun h => by cases h)
  refine (similar_spec (.mk 1 0 []) (.mk 1 3 []) none none 0 0).at ?_ rfl rfl ?_
  · intro p hp
    simp only [List.mem_cons, List.not_mem_nil, or_false] at hp
    rcases hp with rfl | rfl
    · exact List.mem_cons_of_mem _ (List.mem_cons_self ..)
    · exact List.mem_cons_of_mem _ (List.mem_cons_self ..)
  rintro r out ⟨rfl, rfl⟩
  refine AtIf.mk (fun h => by cases h) (fun _ => ?_)
  exact AtRet.pure [] rfl (by simp) ⟨rfl, rfl⟩

end Go.Proofs.YtpibdcjdamibdaaGreat
end
