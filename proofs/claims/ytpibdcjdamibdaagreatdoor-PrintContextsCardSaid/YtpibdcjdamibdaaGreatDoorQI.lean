/- Merged texts: Rd1 EvA JoinLay HandJ Gm. How arguments of struct types read (written by gen_read.py). Condition: each slice that is met weighs no more than the form's own reach. Plain law: functions with fuel that yield what is said of them; loops over lists; what is known of short lists. No program in sight. The facts that the library's contract of strings.Join asks of the program. No condition. The contract of strings.Join at a slice that can be read. Conditions: fewer than 1000000 elements, a text of at most 1000000 bytes. Maps from ints to structs with one slice each: what is known of all entries together. No condition: lemmas for the texts that gen.py prints. -/
import Derived.Test.YtpibdcjdamibdaaGreatDoorQH
import Derived.Shelf.Strings.OnBuilder
/-! Rd1 -/
section
namespace Go.Proofs.YtpibdcjdamibdaaGreatDoor
open Go.Tr Go
open Go.ChangeShapes Go.WideShapes Go.ChangeAt Go.RowKit
set_option maxRecDepth 10000
set_option linter.unusedVariables false

theorem cz3 : Tryz.prog.cellsOf 3 = 1 := by kernel_rfl
theorem cz9 : Tryz.prog.cellsOf 9 = 1 := by kernel_rfl
theorem cz24 : Tryz.prog.cellsOf 24 = 1 := by kernel_rfl
theorem cz26 : Tryz.prog.cellsOf 26 = 4 := by kernel_rfl
theorem cz42 : Tryz.prog.cellsOf 42 = 6 := by kernel_rfl

section
variable {H : Type} {enc : TypeId × Value → H} {W : World}

theorem repC_Tm {W : World} {t : Tm} {a1 : Option Addr} {c1 : Nat} (r1 : RepC (fun _ => True) W (.sl 4 (Tm.encL t.args)) [.slice a1 (Tm.encL t.args).length c1]) : RepC (fun _ => True) W t.enc [.int .i64 t.op, .int .i64 t.hd, .int .i64 t.n, .slice a1 (Tm.encL t.args).length c1] := by
  rw [Tm.enc_eq]
  exact ⟨[.int .i64 t.op], _, rfl, rfl, [.int .i64 t.hd], _, rfl, rfl, [.int .i64 t.n], _, rfl, rfl, [.slice a1 (Tm.encL t.args).length c1], _, rfl, r1, rfl⟩

theorem bz26 : 1 ≤ Tryz.prog.bytesOf 26 := by decide +kernel

theorem rds_Tm (n : Nat) (hel : ∀ m, m < n → ∀ cs x, DataW.trod enc Tryz.prog W 0 (fun _ => true) true m 26 cs = some x → (∀ y ∈ x.1.weights Tryz.prog 26, y ≤ reachBytes) → ∃ t : Tm, RepC (fun _ => True) W t.enc cs)
    {cs : List Value} {x : DataW H × List MemPlace} (h : DataW.trod enc Tryz.prog W 0 (fun _ => true) true n 24 cs = some x) (hw : ∀ y ∈ x.1.weights Tryz.prog 24, y ≤ reachBytes) :
    ∃ (l : List Tm) (a : Option Addr) (c : Nat), cs = [.slice a (Tm.encL l).length c] ∧ RepC (fun _ => True) W (.sl 4 (Tm.encL l)) [.slice a (Tm.encL l).length c] := by
  obtain ⟨l, a, c, e, hr⟩ := read_slice Tryz.underlying24 cz26 (by decide) bz26 Tm.enc n hel h hw
  subst e
  exact ⟨l, a, c, by rw [Tm.encL_length], by rw [Tm.encL_eq, List.length_map]; exact hr⟩

theorem rd_Tm : ∀ (n : Nat) (cs : List Value) (x : DataW H × List MemPlace), DataW.trod enc Tryz.prog W 0 (fun _ => true) true n 26 cs = some x → (∀ y ∈ x.1.weights Tryz.prog 26, y ≤ reachBytes) →
    ∃ (t : Tm) (a1 : Option Addr) (c1 : Nat), cs = [.int .i64 t.op, .int .i64 t.hd, .int .i64 t.n, .slice a1 (Tm.encL t.args).length c1] ∧ RepC (fun _ => True) W (.sl 4 (Tm.encL t.args)) [.slice a1 (Tm.encL t.args).length c1] := by
  intro n
  induction n using Nat.strongRecOn with
  | ind n ih =>
  intro cs x h hw
  obtain ⟨xs, m, rfl, rfl, hl, hlen, hf⟩ := DataW.trod_struct Tryz.underlying26 h
  match xs, hlen with
  | [y0, y1, y2, y3], _ =>
  rw [cz26] at hl
  match cs, hl with
  | [v0, v1, v2, v3], _ =>
  have h0 : DataW.trod enc Tryz.prog W 0 (fun _ => true) true m 3 (([v0, v1, v2, v3].drop 0).take (Tryz.prog.cellsOf 3)) = some y0 := hf 0 _ rfl
  have h1 : DataW.trod enc Tryz.prog W 0 (fun _ => true) true m 3 (([v0, v1, v2, v3].drop 1).take (Tryz.prog.cellsOf 3)) = some y1 := hf 1 _ rfl
  have h2 : DataW.trod enc Tryz.prog W 0 (fun _ => true) true m 3 (([v0, v1, v2, v3].drop 2).take (Tryz.prog.cellsOf 3)) = some y2 := hf 2 _ rfl
  have h3 : DataW.trod enc Tryz.prog W 0 (fun _ => true) true m 24 (([v0, v1, v2, v3].drop 3).take (Tryz.prog.cellsOf 24)) = some y3 := hf 3 _ rfl
  simp only [cz24, cz3, List.drop_zero, List.drop_succ_cons, List.take_succ_cons, List.take_zero] at h0 h1 h2 h3
  simp only [DataW.weights, Tryz.underlying26, List.map_cons, List.map_nil, DataW.weightsEach, List.append_nil, List.mem_append] at hw
  obtain ⟨f0, e0, _, _⟩ := DataW.trod_int Tryz.underlying3 h0
  obtain ⟨f1, e1, _, _⟩ := DataW.trod_int Tryz.underlying3 h1
  obtain ⟨f2, e2, _, _⟩ := DataW.trod_int Tryz.underlying3 h2
  obtain ⟨f3, a1, c1, e3, r1⟩ := rds_Tm m (fun m' hm' cs' x' h' hw' => by
    obtain ⟨t, a1, c1, rfl, r1⟩ := ih m' (by omega) cs' x' h' hw'
    exact ⟨t, repC_Tm r1⟩) h3 (fun y hy => hw y (.inr (.inr (.inr hy))))
  simp only [List.cons.injEq, and_true] at e0 e1 e2 e3
  subst e0
  subst e1
  subst e2
  subst e3
  exact ⟨.mk f0 f1 f2 f3, a1, c1, rfl, r1⟩

theorem rdl_Tm (n : Nat) (cs : List Value) (x : DataW H × List MemPlace) (h : DataW.trod enc Tryz.prog W 0 (fun _ => true) true n 24 cs = some x) (hw : ∀ y ∈ x.1.weights Tryz.prog 24, y ≤ reachBytes) :
    ∃ (l : List Tm) (a : Option Addr) (c : Nat), cs = [.slice a (Tm.encL l).length c] ∧ RepC (fun _ => True) W (.sl 4 (Tm.encL l)) [.slice a (Tm.encL l).length c] :=
  rds_Tm n (fun m' _ cs' x' h' hw' => by
    obtain ⟨t, a1, c1, rfl, r1⟩ := rd_Tm m' cs' x' h' hw'
    exact ⟨t, repC_Tm r1⟩) h hw

theorem argl_Tm {base : Nat} {v : Value} {d : DataW H} {p : List MemPlace} (hok : Value.okWide Tryz.prog W .any base 24 v) (h : DataW.Trod enc Tryz.prog W 0 (fun _ => true) true 24 v d p) (hw : ∀ y ∈ d.weights Tryz.prog 24, y ≤ reachBytes) :
    ∃ (l : List Tm) (a : Option Addr) (c : Nat), v = .slice a (Tm.encL l).length c ∧ Rep (fun _ => True) W (.slice a (Tm.encL l).length c) (.sl 4 (Tm.encL l)) := by
  obtain ⟨a0, l0, c0, rfl⟩ := okWide_slice Tryz.underlying24 hok
  obtain ⟨n, hn⟩ := h
  obtain ⟨l, a, c, e, hr⟩ := rdl_Tm n _ _ hn hw
  simp only [Value.cells, List.cons.injEq, and_true] at e
  exact ⟨l, a, c, e, hr⟩

theorem arg_Tm {base : Nat} {v : Value} {d : DataW H} {p : List MemPlace} (hok : Value.okWide Tryz.prog W .any base 26 v) (h : DataW.Trod enc Tryz.prog W 0 (fun _ => true) true 26 v d p) (hw : ∀ y ∈ d.weights Tryz.prog 26, y ≤ reachBytes) :
    ∃ (t : Tm) (a1 : Option Addr) (c1 : Nat), v = .agg #[.int .i64 t.op, .int .i64 t.hd, .int .i64 t.n, .slice a1 (Tm.encL t.args).length c1] ∧ Rep (fun _ => True) W (.slice a1 (Tm.encL t.args).length c1) (.sl 4 (Tm.encL t.args)) := by
  obtain ⟨cs, rfl, _⟩ := okWide_struct Tryz.underlying26 hok
  obtain ⟨n, hn⟩ := h
  obtain ⟨t, a1, c1, e, r1⟩ := rd_Tm n _ _ hn hw
  simp only [Value.cells] at e
  have e : cs = #[.int .i64 t.op, .int .i64 t.hd, .int .i64 t.n, .slice a1 (Tm.encL t.args).length c1] := by rw [← Array.toList_inj, e]
  exact ⟨t, a1, c1, by rw [e], r1⟩

theorem repC_Dc {W : World} {t : Dc} {a1 : Option Addr} {c1 : Nat} (r1 : RepC (fun _ => True) W (.sl 4 (Tm.encL t.cls.args)) [.slice a1 (Tm.encL t.cls.args).length c1]) : RepC (fun _ => True) W t.enc [.string t.name, .int .i64 t.cls.op, .int .i64 t.cls.hd, .int .i64 t.cls.n, .slice a1 (Tm.encL t.cls.args).length c1, .int .i64 t.implicit] := by
  rw [Dc.enc_eq]
  exact ⟨[.string t.name], _, rfl, rfl, [.int .i64 t.cls.op, .int .i64 t.cls.hd, .int .i64 t.cls.n, .slice a1 (Tm.encL t.cls.args).length c1], _, rfl, ⟨[.int .i64 t.cls.op], _, rfl, rfl, [.int .i64 t.cls.hd], _, rfl, rfl, [.int .i64 t.cls.n], _, rfl, rfl, [.slice a1 (Tm.encL t.cls.args).length c1], _, rfl, r1, rfl⟩, [.int .i64 t.implicit], _, rfl, rfl, rfl⟩

theorem bz42 : 1 ≤ Tryz.prog.bytesOf 42 := by decide +kernel

theorem rds_Dc (n : Nat) (hel : ∀ m, m < n → ∀ cs x, DataW.trod enc Tryz.prog W 0 (fun _ => true) true m 42 cs = some x → (∀ y ∈ x.1.weights Tryz.prog 42, y ≤ reachBytes) → ∃ t : Dc, RepC (fun _ => True) W t.enc cs)
    {cs : List Value} {x : DataW H × List MemPlace} (h : DataW.trod enc Tryz.prog W 0 (fun _ => true) true n 22 cs = some x) (hw : ∀ y ∈ x.1.weights Tryz.prog 22, y ≤ reachBytes) :
    ∃ (l : List Dc) (a : Option Addr) (c : Nat), cs = [.slice a (Dc.encL l).length c] ∧ RepC (fun _ => True) W (.sl 6 (Dc.encL l)) [.slice a (Dc.encL l).length c] := by
  obtain ⟨l, a, c, e, hr⟩ := read_slice Tryz.underlying22 cz42 (by decide) bz42 Dc.enc n hel h hw
  subst e
  exact ⟨l, a, c, by rw [Dc.encL_length], by rw [Dc.encL_eq, List.length_map]; exact hr⟩

theorem rd_Dc : ∀ (n : Nat) (cs : List Value) (x : DataW H × List MemPlace), DataW.trod enc Tryz.prog W 0 (fun _ => true) true n 42 cs = some x → (∀ y ∈ x.1.weights Tryz.prog 42, y ≤ reachBytes) →
    ∃ (t : Dc) (a1 : Option Addr) (c1 : Nat), cs = [.string t.name, .int .i64 t.cls.op, .int .i64 t.cls.hd, .int .i64 t.cls.n, .slice a1 (Tm.encL t.cls.args).length c1, .int .i64 t.implicit] ∧ RepC (fun _ => True) W (.sl 4 (Tm.encL t.cls.args)) [.slice a1 (Tm.encL t.cls.args).length c1] := by
  intro n
  intro cs x h hw
  obtain ⟨xs, m, rfl, rfl, hl, hlen, hf⟩ := DataW.trod_struct Tryz.underlying42 h
  match xs, hlen with
  | [y0, y1, y2], _ =>
  rw [cz42] at hl
  match cs, hl with
  | [v0, v1, v2, v3, v4, v5], _ =>
  have h0 : DataW.trod enc Tryz.prog W 0 (fun _ => true) true m 9 (([v0, v1, v2, v3, v4, v5].drop 0).take (Tryz.prog.cellsOf 9)) = some y0 := hf 0 _ rfl
  have h1 : DataW.trod enc Tryz.prog W 0 (fun _ => true) true m 26 (([v0, v1, v2, v3, v4, v5].drop 1).take (Tryz.prog.cellsOf 26)) = some y1 := hf 1 _ rfl
  have h2 : DataW.trod enc Tryz.prog W 0 (fun _ => true) true m 3 (([v0, v1, v2, v3, v4, v5].drop 5).take (Tryz.prog.cellsOf 3)) = some y2 := hf 2 _ rfl
  simp only [cz26, cz3, cz9, List.drop_zero, List.drop_succ_cons, List.take_succ_cons, List.take_zero] at h0 h1 h2
  simp only [DataW.weights, Tryz.underlying42, List.map_cons, List.map_nil, DataW.weightsEach, List.append_nil, List.mem_append] at hw
  obtain ⟨f0, e0, _, _⟩ := DataW.trod_string Tryz.underlying9 h0
  obtain ⟨f1, a1, c1, e1, r1⟩ := rd_Tm m _ _ h1 (fun y hy => hw y (.inr (.inl hy)))
  obtain ⟨f2, e2, _, _⟩ := DataW.trod_int Tryz.underlying3 h2
  simp only [List.cons.injEq, and_true] at e0 e1 e2
  subst e0
  obtain ⟨rfl, rfl, rfl, rfl⟩ := e1
  subst e2
  exact ⟨.mk f0 f1 f2, a1, c1, rfl, r1⟩

theorem rdl_Dc (n : Nat) (cs : List Value) (x : DataW H × List MemPlace) (h : DataW.trod enc Tryz.prog W 0 (fun _ => true) true n 22 cs = some x) (hw : ∀ y ∈ x.1.weights Tryz.prog 22, y ≤ reachBytes) :
    ∃ (l : List Dc) (a : Option Addr) (c : Nat), cs = [.slice a (Dc.encL l).length c] ∧ RepC (fun _ => True) W (.sl 6 (Dc.encL l)) [.slice a (Dc.encL l).length c] :=
  rds_Dc n (fun m' _ cs' x' h' hw' => by
    obtain ⟨t, a1, c1, rfl, r1⟩ := rd_Dc m' cs' x' h' hw'
    exact ⟨t, repC_Dc r1⟩) h hw

theorem argl_Dc {base : Nat} {v : Value} {d : DataW H} {p : List MemPlace} (hok : Value.okWide Tryz.prog W .any base 22 v) (h : DataW.Trod enc Tryz.prog W 0 (fun _ => true) true 22 v d p) (hw : ∀ y ∈ d.weights Tryz.prog 22, y ≤ reachBytes) :
    ∃ (l : List Dc) (a : Option Addr) (c : Nat), v = .slice a (Dc.encL l).length c ∧ Rep (fun _ => True) W (.slice a (Dc.encL l).length c) (.sl 6 (Dc.encL l)) := by
  obtain ⟨a0, l0, c0, rfl⟩ := okWide_slice Tryz.underlying22 hok
  obtain ⟨n, hn⟩ := h
  obtain ⟨l, a, c, e, hr⟩ := rdl_Dc n _ _ hn hw
  simp only [Value.cells, List.cons.injEq, and_true] at e
  exact ⟨l, a, c, e, hr⟩

theorem arg_Dc {base : Nat} {v : Value} {d : DataW H} {p : List MemPlace} (hok : Value.okWide Tryz.prog W .any base 42 v) (h : DataW.Trod enc Tryz.prog W 0 (fun _ => true) true 42 v d p) (hw : ∀ y ∈ d.weights Tryz.prog 42, y ≤ reachBytes) :
    ∃ (t : Dc) (a1 : Option Addr) (c1 : Nat), v = .agg #[.string t.name, .int .i64 t.cls.op, .int .i64 t.cls.hd, .int .i64 t.cls.n, .slice a1 (Tm.encL t.cls.args).length c1, .int .i64 t.implicit] ∧ Rep (fun _ => True) W (.slice a1 (Tm.encL t.cls.args).length c1) (.sl 4 (Tm.encL t.cls.args)) := by
  obtain ⟨cs, rfl, _⟩ := okWide_struct Tryz.underlying42 hok
  obtain ⟨n, hn⟩ := h
  obtain ⟨t, a1, c1, e, r1⟩ := rd_Dc n _ _ hn hw
  simp only [Value.cells] at e
  have e : cs = #[.string t.name, .int .i64 t.cls.op, .int .i64 t.cls.hd, .int .i64 t.cls.n, .slice a1 (Tm.encL t.cls.args).length c1, .int .i64 t.implicit] := by rw [← Array.toList_inj, e]
  exact ⟨t, a1, c1, by rw [e], r1⟩
end
end Go.Proofs.YtpibdcjdamibdaaGreatDoor
end

/-! EvA -/
section
namespace Go.Proofs.YtpibdcjdamibdaaGreatDoor
open Go.Tr Go
set_option linter.unusedVariables false

theorem wrapS {i : Nat} (h : i < 2000000000000000000) : IntKind.i64.wrap ((i : Int) + 1) = ((i + 1 : Nat) : Int) := by
  rw [wrap_i64 (by omega) (by omega)]; omega

/-- f yields something, given fuel enough. -/
def Tot {α : Type} (f : Nat → Option α) : Prop := ∃ r, Ev f r
theorem Ev.tot {α : Type} {f : Nat → Option α} {r : α} (h : Ev f r) : Tot f := ⟨r, h⟩
theorem Ev.unique {α : Type} {f : Nat → Option α} {r r' : α} (h : Ev f r) (h' : Ev f r') : r = r' := by
  obtain ⟨N, h⟩ := h
  obtain ⟨M, h'⟩ := h'
  have e1 := h (max N M) (by omega)
  have e2 := h' (max N M) (by omega)
  rw [e1] at e2
  exact Option.some.inj e2

/-- f yields something of which p holds. -/
def Yields {α : Type} (f : Nat → Option α) (p : α → Prop) : Prop := ∃ r, Ev f r ∧ p r
theorem Yields.succ {α : Type} {f g : Nat → Option α} {p : α → Prop} (hf : ∀ n, f (n + 1) = g n) (h : Yields g p) : Yields f p := by
  obtain ⟨r, h1, h2⟩ := h; exact ⟨r, h1.succ hf, h2⟩
theorem Yields.bind {α β : Type} {f : Nat → Option α} {g : Nat → α → Option β} {q : α → Prop} {p : β → Prop} (h : Yields f q) (k : ∀ x, q x → Yields (fun n => g n x) p) : Yields (fun n => (f n).bind (g n)) p := by
  obtain ⟨x, h1, h2⟩ := h
  obtain ⟨r, h3, h4⟩ := k x h2
  exact ⟨r, h1.bind h3, h4⟩
theorem Yields.pure {α : Type} {p : α → Prop} {r : α} (h : p r) : Yields (fun _ => some r) p := ⟨r, Ev.pure r, h⟩
theorem Yields.ite {α : Type} {b : Bool} {f g : Nat → Option α} {p : α → Prop} (h : b = true → Yields f p) (k : b = false → Yields g p) : Yields (fun n => cond b (f n) (g n)) p := by
  cases b with
  | true => exact h rfl
  | false => exact k rfl
theorem Yields.need {α : Type} {b : Bool} {f : Nat → Option α} {p : α → Prop} (hb : b = true) (h : Yields f p) : Yields (fun n => cond b (f n) none) p := by
  subst hb; exact h
theorem Yields.some {α β : Type} {o : Option α} {x : α} {g : Nat → α → Option β} {p : β → Prop} (ho : o = Option.some x) (k : Yields (fun n => g n x) p) : Yields (fun n => o.bind (g n)) p := by
  subst ho; exact k
theorem Yields.mono {α : Type} {f : Nat → Option α} {p q : α → Prop} (h : Yields f p) (k : ∀ r, p r → q r) : Yields f q := by
  obtain ⟨r, h1, h2⟩ := h; exact ⟨r, h1, k r h2⟩
theorem Ev.yields {α : Type} {f : Nat → Option α} {r : α} {p : α → Prop} (h : Ev f r) (hp : p r) : Yields f p := ⟨r, h, hp⟩
theorem Yields.ev {α : Type} {f : Nat → Option α} {r : α} (h : Yields f (· = r)) : Ev f r := by
  obtain ⟨r', h1, rfl⟩ := h; exact h1
theorem Ev.is {α : Type} {f : Nat → Option α} {r : α} (h : Ev f r) : Yields f (· = r) := ⟨r, h, rfl⟩

theorem Ev.some {α β : Type} {o : Option α} {x : α} {g : Nat → α → Option β} {r : β} (ho : o = Option.some x) (k : Ev (fun n => g n x) r) : Ev (fun n => o.bind (g n)) r := by
  subst ho; exact k
theorem Ev.need {α : Type} {b : Bool} {f : Nat → Option α} {r : α} (hb : b = true) (h : Ev f r) : Ev (fun n => cond b (f n) none) r := by
  subst hb; exact h

theorem idx_get {α : Type} {l : List α} {i : Nat} {x : α} (h : l[i]? = Option.some x) : idx l (i : Int) = Option.some x := by rw [idx_nat, h]
theorem idx_get0 {α : Type} {x : α} {l : List α} : idx (x :: l) 0 = Option.some x := rfl
theorem idx_get1 {α : Type} {x y : α} {l : List α} : idx (x :: y :: l) 1 = Option.some y := rfl

end Go.Proofs.YtpibdcjdamibdaaGreatDoor
end

/-! JoinLay -/
section
namespace Go.Proofs.YtpibdcjdamibdaaGreatDoor
open Go Go.Shelf
def joinRen : Go.Shelf.Ren := ⟨fun | 156 => 38 | 165 => 72 | 166 => 73 | 169 => 74 | 240 => 107 | 241 => 108 | 276 => 132 | 277 => 133 | n => n, fun | 31 => 38 | 9 => 9 | 3 => 3 | 4 => 4 | 0 => 0 | 20 => 20 | 72 => 124 | 76 => 128 | 70 => 121 | 37 => 122 | 75 => 127 | 127 => 157 | 164 => 172 | 5 => 5 | 80 => 130 | n => n, fun  | n => n⟩
theorem joinLays : Go.Proofs.Lays.n156 Tryz.prog joinRen := {
  mixed := by kernel_rfl
  f156 := Tryz.func38.trans (congrArg some (by kernel_rfl))
  f165 := Tryz.func72.trans (congrArg some (by kernel_rfl))
  f166 := Tryz.func73.trans (congrArg some (by kernel_rfl))
  f169 := Tryz.func74.trans (congrArg some (by kernel_rfl))
  f240 := Tryz.func107.trans (congrArg some (by kernel_rfl))
  f241 := Tryz.func108.trans (congrArg some (by kernel_rfl))
  f276 := Tryz.func132.trans (congrArg some (by kernel_rfl))
  f277 := Tryz.func133.trans (congrArg some (by kernel_rfl))
  t0 := Tryz.underlying0
  a0 := Tryz.isAgg0
  z0 := Tryz.sizeOf0
  v0 := Tryz.zeroValue0
  t3 := Tryz.underlying3
  a3 := Tryz.isAgg3
  z3 := Tryz.sizeOf3
  v3 := Tryz.zeroValue3
  t4 := Tryz.underlying4
  a4 := Tryz.isAgg4
  z4 := Tryz.sizeOf4
  v4 := Tryz.zeroValue4
  t9 := Tryz.underlying9
  a9 := Tryz.isAgg9
  z9 := Tryz.sizeOf9
  v9 := Tryz.zeroValue9
  t20 := Tryz.underlying20
  a20 := Tryz.isAgg20
  z20 := Tryz.sizeOf20
  v20 := Tryz.zeroValue20
  t31 := Tryz.underlying38
  a31 := Tryz.isAgg38
  z31 := Tryz.sizeOf38
  v31 := Tryz.zeroValue38
  t37 := Tryz.underlying122
  a37 := Tryz.isAgg122
  z37 := Tryz.sizeOf122
  v37 := Tryz.zeroValue122
  t70 := Tryz.underlying121
  a70 := Tryz.isAgg121
  z70 := Tryz.sizeOf121
  v70 := Tryz.zeroValue121
  t72 := Tryz.underlying124
  a72 := Tryz.isAgg124
  z72 := Tryz.sizeOf124
  v72 := Tryz.zeroValue124
  t75 := Tryz.underlying127
  a75 := Tryz.isAgg127
  z75 := Tryz.sizeOf127
  v75 := Tryz.zeroValue127
  t76 := Tryz.underlying128
  a76 := Tryz.isAgg128
  z76 := Tryz.sizeOf128
  v76 := Tryz.zeroValue128
  t127 := Tryz.underlying157
  a127 := Tryz.isAgg157
  z127 := Tryz.sizeOf157
  v127 := Tryz.zeroValue157
  t164 := Tryz.underlying172
  a164 := Tryz.isAgg172
  z164 := Tryz.sizeOf172
  v164 := Tryz.zeroValue172 }
theorem joinExtra : Go.Proofs.Builder.Extra Tryz.prog joinRen where
  sizeBuilder := by kernel_rfl
  liesBuilder := by kernel_rfl
  t5 := Tryz.underlying5
  a5 := Tryz.isAgg5
  z5 := Tryz.sizeOf5
  v5 := Tryz.zeroValue5
  infoByte := by kernel_rfl
  cellsByte := by kernel_rfl
  sizeByte := by kernel_rfl
  neB5 := by decide
end Go.Proofs.YtpibdcjdamibdaaGreatDoor
end

/-! HandJ -/
section
namespace Go.Proofs.YtpibdcjdamibdaaGreatDoor
open Go.Tr Go
set_option maxRecDepth 10000

/-- Texts with another between each two of them. -/
def joinF (l : List ByteArray) (sep : ByteArray) : ByteArray := ⟨(Lib.join (l.map (·.data.toList)) sep.data.toList).toArray⟩

theorem repE_strs {J : Nat → Prop} {w : World} : ∀ (l : List ByteArray) (cs : List Value), RepE J w 1 (l.map D.str) cs → ∀ (j : Nat) x, l[j]? = some x → cs[j]? = some (.string x)
  | [], _, _, j, x, hx => by simp at hx
  | s :: l, cs, h, j, x, hx => by
    simp only [List.map_cons, RepE, RepC] at h
    obtain ⟨h1, h2, h3⟩ := h
    cases cs with
    | nil => simp at h1
    | cons c cs =>
      simp only [List.take_succ_cons, List.take_zero, List.cons.injEq, and_true] at h2
      cases j with
      | zero => simp only [List.getElem?_cons_zero, Option.some.injEq] at hx; subst hx; simp [h2]
      | succ j =>
        simp only [List.getElem?_cons_succ] at hx ⊢
        exact repE_strs l cs h3 j x hx

theorem join_spec (l : List ByteArray) (sep : ByteArray) (a : Option Addr) (c : Nat) (h1 : l.length ≤ 1000000) (h2 : (joinF l sep).size ≤ 1000000) :
    Pure Tryz.prog (fnS 38) [.v (.slice a (List.map D.str l).length c), sS sep] [(.slice a (List.map D.str l).length c, .sl 1 (List.map D.str l))] (fun r out => r = sS (joinF l sep) ∧ out = []) := by
  intro J ℓ w hG hJ
  refine ⟨.enter 38 #[.slice a (List.map D.str l).length c, .string sep], ?_, ?_⟩
  · simp only [Cal.sem, SV.den, SV.denL, Deferred.ofValue, Sem.run_bind, Sem.run_pure, Result.andThen_ok, invoke]
    exact Tryz.call38 _ _
  · have hr := hG.reps _ (List.mem_singleton.2 rfl)
    simp only [Rep, RepC] at hr
    obtain ⟨a', cap, hv, ⟨hcap, _⟩, hb⟩ := hr
    simp only [List.cons.injEq, Value.slice.injEq, and_true, true_and] at hv
    obtain ⟨rfl, rfl⟩ := hv
    have fin : Calls Tryz.prog 38 #[.slice a (List.map D.str l).length c, .string sep] w fun e w' => e = .returned (.string (joinF l sep)) ∧ Go.RowKit.Below w.heap.size w w' := by
      rcases hb with hb | ⟨b, off, cs, T, fz, ha, _, hw, hre⟩
      · have hl : l = [] := by simpa using hb
        subst hl
        refine (Any.strings_Join_none joinLays joinExtra a c sep w).mono ?_
        rintro e w' ⟨rfl, rfl⟩
        exact ⟨rfl, Go.RowKit.Below.refl _ _⟩
      · subst ha
        have hlt := lt_of_get hw
        have := Any.strings_Join joinLays joinExtra b off c l sep w (fun j x hx => ?_) hlt (by omega) (by simpa using hcap) (by
          have e : (joinF l sep).size = (Lib.join (l.map (·.data.toList)) sep.data.toList).length := by simp [joinF, ByteArray.size]
          omega)
        · rw [List.length_map]; exact this
        · have hj := repE_strs l _ hre j x hx
          rw [List.getElem?_drop, Array.getElem?_toList] at hj
          simp only [World.cell?, hw]
          exact hj
    refine CallsIn.mono ((callsIn_wide (n := 0)).2 fin) ?_
    rintro e w' ⟨rfl, hbe⟩
    exact ⟨ℓ, .ret (sS (joinF l sep)), ⟨[], [], []⟩, rfl, rfl, List.prefix_refl _, ⟨hbe.os, hbe.output, hbe.size, fun x hx _ => hbe.block x hx⟩, Good.beside ⟨hG.len, hG.nodup, hG.lt, hG.memJ, hG.wf, hG.own, hG.accs, by simp⟩ hbe.size (fun x hx => hbe.block x hx), fun b hb => .inl hb, _, _, rfl, rfl, rfl, rfl, rfl⟩
end Go.Proofs.YtpibdcjdamibdaaGreatDoor
end

/-! Gm -/
section
namespace Go.Tr
open Go
set_option maxRecDepth 10000

/-- An entry: what it is, and where its slice lies. -/
abbrev GE (α : Type) : Type := α × Option Addr × Nat
/-- Without places. -/
def er {κ α : Type} (g : List (κ × GE α)) : List (κ × α) := g.map fun p => (p.1, p.2.1)

theorem mget_er {κ α : Type} [DecidableEq κ] (k : κ) : ∀ g : List (κ × GE α), mget (er g) k = (mget g k).map (·.1)
  | [] => rfl
  | (k', v) :: r => by
    have ih := mget_er k r
    simp only [er] at ih
    simp only [er, List.map_cons, mget]
    split
    · rfl
    · exact ih
theorem er_mput {κ α : Type} [DecidableEq κ] (k : κ) (v : GE α) : ∀ g : List (κ × GE α), er (mput k v g) = mput k v.1 (er g)
  | [] => rfl
  | (k', u) :: r => by
    have ih := er_mput k v r
    simp only [er] at ih
    simp only [er, List.map_cons, mput]
    split
    · rfl
    · simp only [List.map_cons, ih]

/-- What reads as a slice. -/
abbrev slR (k : Nat) (ds : List D) (a : Option Addr) (c : Nat) : Value × D := (.slice a ds.length c, .sl k ds)

/-- All slices of the entries of a map. -/
def agV {κ α : Type} (_k : Nat) (p : α → List D) (g : List (κ × GE α)) : Value := .agg (g.map fun x => Value.slice x.2.2.1 (p x.2.1).length x.2.2.2).toArray
def agD {κ α : Type} (k : Nat) (p : α → List D) (g : List (κ × GE α)) : D := .agg (g.map fun x => .sl k (p x.2.1))

def AllR {κ α : Type} (J : Nat → Prop) (w : World) (k : Nat) (p : α → List D) (g : List (κ × GE α)) : Prop := ∀ x ∈ g, RepC J w (.sl k (p x.2.1)) [.slice x.2.2.1 (p x.2.1).length x.2.2.2]

theorem ag_iff {κ α : Type} {J : Nat → Prop} {w : World} (k : Nat) (p : α → List D) : ∀ (g : List (κ × GE α)), Rep J w (agV k p g) (agD k p g) ↔ AllR J w k p g := by
  have key : ∀ (g : List (κ × GE α)), RepA J w (g.map fun x => D.sl k (p x.2.1)) (g.map fun x => Value.slice x.2.2.1 (p x.2.1).length x.2.2.2) ↔ AllR J w k p g := by
    intro g
    induction g with
    | nil => simp [RepA, AllR]
    | cons x g ih =>
      simp only [List.map_cons, RepA]
      constructor
      · rintro ⟨u, v, h1, h2, h3⟩
        have hu : ∃ c, u = [c] := by
          simp only [RepC] at h2
          obtain ⟨a, cap, e, _⟩ := h2
          exact ⟨_, e⟩
        obtain ⟨c, rfl⟩ := hu
        simp only [List.singleton_append, List.cons.injEq] at h1
        obtain ⟨rfl, rfl⟩ := h1
        intro y hy
        rcases List.mem_cons.1 hy with rfl | hy
        · exact h2
        · exact ih.1 h3 y hy
      · intro h
        exact ⟨[_], _, rfl, h x (List.mem_cons_self ..), ih.2 (fun y hy => h y (List.mem_cons_of_mem _ hy))⟩
  intro g
  simp only [agV, agD, Rep]
  constructor
  · rintro ⟨cs, h1, h2⟩
    simp only [Value.agg.injEq] at h1
    subst h1
    exact (key g).1 h2
  · intro h
    exact ⟨_, rfl, (key g).2 h⟩

theorem AllR.get {κ α : Type} [DecidableEq κ] {J : Nat → Prop} {w : World} {k : Nat} {p : α → List D} {n : κ} {v : GE α} : ∀ {g : List (κ × GE α)}, AllR J w k p g → mget g n = some v → RepC J w (.sl k (p v.1)) [.slice v.2.1 (p v.1).length v.2.2]
  | [], _, h => by cases h
  | (k', u) :: r, hA, h => by
    simp only [mget] at h
    split at h
    · simp only [Option.some.injEq] at h; subst h; exact hA _ (List.mem_cons_self ..)
    · exact AllR.get (g := r) (fun y hy => hA y (List.mem_cons_of_mem _ hy)) h

theorem AllR.put {κ α : Type} [DecidableEq κ] {J : Nat → Prop} {w : World} {k : Nat} {p : α → List D} {n : κ} {v : GE α} (hv : RepC J w (.sl k (p v.1)) [.slice v.2.1 (p v.1).length v.2.2]) : ∀ {g : List (κ × GE α)}, AllR J w k p g → AllR J w k p (mput n v g)
  | [], _ => by
    intro x hx
    simp only [mput, List.mem_singleton] at hx
    subst hx; exact hv
  | (k', u) :: r, hA => by
    have hr : AllR J w k p r := fun y hy => hA y (List.mem_cons_of_mem _ hy)
    simp only [mput]
    split
    · intro x hx
      rcases List.mem_cons.1 hx with rfl | hx
      · exact hv
      · exact hr x hx
    · intro x hx
      rcases List.mem_cons.1 hx with rfl | hx
      · exact hA _ (List.mem_cons_self ..)
      · exact AllR.put hv hr x hx

/-- A map is made; nothing is known of no entries. -/
theorem at_makeMapG {P : Program} {t : TypeId} (q : IntKind) {α : Type} (f : GE α → Value) (k : Nat) (p : α → List D) {S : St} {K : SV → St → Prop} (h : forceL (S.own ++ [.obj (mapO q (encM f []))]) (fun own => putOwn S own (fun S' => addReps S' [(agV k p ([] : List (Int × GE α)), agD k p ([] : List (Int × GE α)))] (fun S'' => K (.mp S.own.length) S'')))) : AtSem P (fun ℓ => Instr.makeMap t (denO ℓ none)) S K := by
  rw [forceL_eq, putOwn_eq, addReps_eq] at h
  constructor
  intro J ℓ w hG hJ
  obtain ⟨r, ℓ', S', w', a1, a2, a3, a4, a5, a6, a7⟩ := (at_makeMap (P := P) (t := t) (S := S) (K := fun v S' => v = .mp S.own.length ∧ S' = ⟨S.own ++ [.obj (mapO q [])], S.accs, S.reps⟩) q (by rw [forceL_eq, putOwn_eq]; exact ⟨rfl, rfl⟩)).sem J ℓ w hG hJ
  obtain ⟨rfl, rfl⟩ := a7
  have a5' : Good J ℓ' ⟨S.own ++ [.obj (mapO q (encM f ([] : List (Int × GE α))))], S.accs, S.reps⟩ w' := a5
  exact ⟨_, ℓ', ⟨S.own ++ [.obj (mapO q (encM f ([] : List (Int × GE α))))], S.accs, S.reps ++ [(agV k p ([] : List (Int × GE α)), agD k p ([] : List (Int × GE α)))]⟩, w', a1, a2, a3, a4, a5'.reps_add _ (by
    intro x hx
    simp only [List.mem_singleton] at hx
    subst hx
    exact (ag_iff (κ := Int) k p []).2 (by intro x hx; cases hx)), a6, h⟩

/-- m[n]: what is found, and what is known of its slice. -/
theorem at_lookupGE {P : Program} {tt : Tab} (hT : TTOK P tt) {α : Type} (f : GE α → Value) (mk : α → Option Addr → Nat → SV) (k : Nat) (p : α → List D) (z : α) (zv : Value) (j : Nat) {t ki e : TypeId} {q : IntKind} {x ix : SV} {S : St} {K : SV → St → Prop} {i : Nat} {n : Int} {g : List (Int × GE α)} {ok : Bool} (ht : tt t = some (.map ki e)) (hk : P.underlying ki = some (.int q)) (hz : ∀ w, (zeroValue e).run P w = .ok zv w)
    (hzf : zv = f (z, none, 0)) (hp : p z = []) (hmk : ∀ v a c ℓ, (mk v a c).den ℓ = f (v, a, c)) (hwf : ∀ v a c m, (mk v a c).wf m = true)
    (hx : x = .mp i) (hi : nth S.own i = some (.obj (mapO q (encM f g)))) (hix : ix = .v (.int q n)) (hj : nth S.reps j = some (agV k p g, agD k p g))
    (h : ∀ a c, addReps S [slR k (p ((mget (er g) n).getD z)) a c] (fun S' => K (match ok with
      | true => .tup [mk ((mget (er g) n).getD z) a c, .v (.bool (mget (er g) n).isSome)]
      | false => mk ((mget (er g) n).getD z) a c) S')) : AtSem P (fun ℓ => Instr.lookup t (x.den ℓ) (ix.den ℓ) ok) S K := by
  simp only [addReps_eq] at h
  constructor
  intro J ℓ w hG hJ
  have hrep := hG.reps _ (nth_mem (j := j) hj)
  rw [ag_iff] at hrep
  obtain ⟨r, ℓ', S', w', a1, a2, a3, a4, a5, a6, a7⟩ := (at_lookup hT (P := P) (S := S) (ok := ok) (K := fun v S' => S' = S ∧ ∀ ℓ, v.den ℓ = (match ok with
      | true => SV.tup [mk ((mget (er g) n).getD z) (((mget g n).map (fun u : GE α => u.2.1)).getD none) (((mget g n).map (fun u : GE α => u.2.2)).getD 0), .v (.bool (mget (er g) n).isSome)]
      | false => mk ((mget (er g) n).getD z) (((mget g n).map (fun u : GE α => u.2.1)).getD none) (((mget g n).map (fun u : GE α => u.2.2)).getD 0)).den ℓ) (l := encM f g) (n := n) (i := i) zv ht hk hz hx hi hix (by
    intro v hv
    rw [lookM_enc, Option.map_eq_some_iff] at hv
    obtain ⟨u, hu, rfl⟩ := hv
    refine ⟨rfl, fun ℓ => ?_⟩
    rw [mget_er, hu]
    cases ok <;> simp [SV.den, SV.denL, hmk]) (by
    intro hv
    rw [lookM_enc, Option.map_eq_none_iff] at hv
    refine ⟨rfl, fun ℓ => ?_⟩
    rw [mget_er, hv]
    cases ok <;> simp [SV.den, SV.denL, hmk, hzf])).sem J ℓ w hG hJ
  obtain ⟨rfl, hden⟩ := a7
  refine ⟨_, ℓ', _, w', a1.trans (congrArg (fun x => Result.ok x w') (hden ℓ')), ?_, a3, a4, a5.reps_add _ ?_, a6, h (((mget g n).map (fun u : GE α => u.2.1)).getD none) (((mget g n).map (fun u : GE α => u.2.2)).getD 0)⟩
  · cases ok <;> simp [SV.wf, SV.wfL, hwf]
  · intro y hy
    simp only [List.mem_singleton] at hy
    subst hy
    have hrep' := a5.reps _ (nth_mem (j := j) hj)
    rw [ag_iff] at hrep'
    rw [mget_er]
    cases hg : mget g n with
    | none =>
      simp only [Option.map_none, Option.getD_none, Rep, RepC, hp]
      exact ⟨none, 0, rfl, by simp, by simp⟩
    | some u =>
      simp only [Option.map_some, Option.getD_some, Rep]
      exact hrep'.get hg

/-- m[n] = x. -/
theorem at_mapPutGE {P : Program} {tt : Tab} (hT : TTOK P tt) {α : Type} (f : GE α → Value) (k : Nat) (p : α → List D) (v : α) (a : Option Addr) (c : Nat) (j j2 : Nat) {t ki e : TypeId} {q : IntKind} {x ix y : SV} {S : St} {K : SV → St → Prop} {i : Nat} {n : Int} {g : List (Int × GE α)} {ds : List D} (ht : tt t = some (.map ki e)) (hk : P.underlying ki = some (.int q))
    (hx : x = .mp i) (hi : nth S.own i = some (.obj (mapO q (encM f g)))) (hix : ix = .v (.int q n)) (hy : ∀ ℓ, y.den ℓ = f (v, a, c)) (hj : nth S.reps j = some (agV k p g, agD k p g)) (hds : p v = ds) (hj2 : nth S.reps j2 = some (.slice a ds.length c, .sl k ds))
    (h : forceL (setNth S.own i (.obj (mapO q (encM f (mput n (v, a, c) g))))) (fun own => forceL (setNth S.reps j (agV k p (mput n (v, a, c) g), agD k p (mput n (v, a, c) g))) (fun reps => K undefS ⟨own, S.accs, reps⟩))) : AtSem P (fun ℓ => do Instr.mapUpdate t (x.den ℓ) (ix.den ℓ) (y.den ℓ); pure undef) S K := by
  simp only [forceL_eq] at h
  subst hds
  constructor
  intro J ℓ w hG hJ
  obtain ⟨r, ℓ', S', w', a1, a2, a3, a4, a5, a6, a7⟩ := (at_mapPut hT (P := P) (S := S) (K := fun r S' => r = undefS ∧ S' = ⟨setNth S.own i (.obj (mapO q (encM f (mput n (v, a, c) g)))), S.accs, S.reps⟩) (l := encM f g) (n := n) (i := i) (f (v, a, c)) ht hk hx hi hix hy (by
    rw [forceL_eq, putOwn_eq, putAt_enc]; exact ⟨rfl, rfl⟩)).sem J ℓ w hG hJ
  obtain ⟨rfl, rfl⟩ := a7
  have hrep := a5.reps _ (nth_mem (j := j) hj)
  rw [ag_iff] at hrep
  have hrv := a5.reps _ (nth_mem (j := j2) hj2)
  simp only [Rep] at hrv
  refine ⟨_, ℓ', ⟨setNth S.own i (.obj (mapO q (encM f (mput n (v, a, c) g)))), S.accs, setNth S.reps j (agV k p (mput n (v, a, c) g), agD k p (mput n (v, a, c) g))⟩, w', a1, a2, a3, a4, ⟨a5.len, a5.nodup, a5.lt, a5.memJ, a5.wf, a5.own, a5.accs, ?_⟩, a6, h⟩
  intro y hy
  rcases List.mem_or_eq_of_mem_set hy with h1 | h1
  · exact a5.reps y h1
  · subst h1
    exact (ag_iff k p _).2 (AllR.put hrv hrep)

/-- append(s, x...) of a slice that may grow, as far as the form's own reach goes. -/
theorem at_appendB {P : Program} {tt : Tab} (hT : TTOK P tt) {t e ty : TypeId} {k : Nat} {x y : SV} {S : St} {K : SV → St → Prop} {v : Value} {a : Option Addr} {m c : Nat} {ds es ds' : List D} (bytes j i : Nat) (ht : tt t = some (.slice e k)) (hel : elemB P e k bytes = true)
    (hx : x = .v v) (hacc : nth S.accs j = some ⟨v, k, e, ds⟩) (hy : y = .v (.slice a m c)) (hr : nth S.reps i = some (.slice a m c, .sl k es)) (hds : ds' = ds ++ es) (hc : decide (ds'.length * bytes ≤ 140737488355328) = true) (hb : Nat.ble 1 bytes = true)
    (h : ∀ a' c', forceL (setNth S.accs j ⟨.slice a' ds'.length c', k, e, ds'⟩) (fun accs => K (.v (.slice a' ds'.length c')) ⟨S.own, accs, S.reps⟩)) : AtSem P (fun ℓ => Builtin.append_ #[t, t] ty (SV.denL ℓ [x, y]).toArray) S K := by
  subst hds
  have hc := of_decide_eq_true hc
  have hb := Nat.le_of_ble_eq_true hb
  simp only [List.length_append] at h hc
  have : ds.length + es.length ≤ (ds.length + es.length) * bytes := Nat.le_mul_of_pos_right _ hb
  exact at_append hT bytes j i ht hel hx hacc hy hr (by omega) (by omega) h

/-- What a slice that is handed in weighs. -/
theorem slice_weight {P : Program} {H : Type} {enc : TypeId × Value → H} {W : World} {t e : TypeId} (ht : P.underlying t = some (.slice e)) {n m c : Nat} {a : Option Addr} {x : DataW H × List MemPlace} (h : DataW.trod enc P W 0 (fun _ => true) true n t [.slice a m c] = some x) (hw : ∀ y ∈ x.1.weights P t, y ≤ reachBytes) : m * P.bytesOf e ≤ reachBytes := by
  rcases DataW.trod_slice ht h with ⟨h1, rfl⟩ | ⟨a, len, cap, elems, rest, m', rfl, h1, rfl, _, hlc, hcm, hlen, hels, _, _⟩
  · simp only [List.cons.injEq, Value.slice.injEq, and_true] at h1
    rw [h1.2.1, Nat.zero_mul]; exact Nat.zero_le _
  · simp only [List.cons.injEq, Value.slice.injEq, and_true] at h1
    obtain ⟨_, rfl, _⟩ := h1
    simp only [DataW.weights, ht] at hw
    have h2 := hw _ (List.mem_cons_self ..)
    simp only [List.length_map, hlen] at h2
    exact Nat.le_trans (Nat.mul_le_mul_right _ (Nat.le_add_right _ _)) h2
end Go.Tr
end
