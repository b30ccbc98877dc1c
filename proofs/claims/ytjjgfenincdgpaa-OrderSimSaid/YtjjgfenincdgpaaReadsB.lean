/- How orders, pairs of ints, pairs of lists and lists of ints read. Condition: each slice that is met weighs no more than the form's own reach. -/
import Derived.Test.YtjjgfenincdgpaaRowKit
import Derived.Test.YtjjgfenincdgpaaShapes
namespace Go.Proofs.Ytjjgfenincdgpaa
open Go.Tr Go
open Go.ChangeShapes Go.WideShapes Go.ChangeAt Go.RowKit
set_option maxRecDepth 10000

theorem cells39 : Try.prog.cellsOf 39 = 1 := by kernel_rfl
theorem cells41 : Try.prog.cellsOf 41 = 3 := by kernel_rfl
theorem cells42 : Try.prog.cellsOf 42 = 2 := by kernel_rfl
theorem cells43 : Try.prog.cellsOf 43 = 2 := by kernel_rfl
theorem bytes41 : 1 ≤ Try.prog.bytesOf 41 := by decide +kernel
theorem bytes3 : 1 ≤ Try.prog.bytesOf 3 := by decide +kernel

theorem okWide_arr {P : Program} {w : World} {r : Reach} {base : Nat} {t e : TypeId} {n : Nat} {v : Value} (ht : P.underlying t = some (.array n e)) (h : Value.okWide P w r base t v) : ∃ cs, v = .agg cs ∧ cs.size = P.cellsOf t := by
  simp only [Value.okWide, ht] at h
  obtain ⟨cs, h1, h2, _⟩ := h
  exact ⟨cs, h1, h2⟩

section
variable {H : Type} {enc : TypeId × Value → H} {W : World}

theorem repC_od {W : World} {t : Od} {a : Option Addr} {c : Nat} (h : RepC (fun _ => True) W (.sl 3 (Od.encL t.parts)) [.slice a (Od.encL t.parts).length c]) : RepC (fun _ => True) W t.enc [.int .i64 t.op, .int .i64 t.n, .slice a (Od.encL t.parts).length c] := by
  rw [Od.enc_eq]
  exact ⟨[.int .i64 t.op], _, rfl, rfl, [.int .i64 t.n], _, rfl, rfl, [.slice a (Od.encL t.parts).length c], [], rfl, h, rfl⟩

theorem read_order : ∀ (n : Nat) (cs : List Value) (x : DataW H × List MemPlace), DataW.trod enc Try.prog W 0 (fun _ => true) true n 41 cs = some x → (∀ y ∈ x.1.weights Try.prog 41, y ≤ reachBytes) →
    ∃ (t : Od) (a : Option Addr) (c : Nat), cs = [.int .i64 t.op, .int .i64 t.n, .slice a (Od.encL t.parts).length c] ∧ RepC (fun _ => True) W (.sl 3 (Od.encL t.parts)) [.slice a (Od.encL t.parts).length c] := by
  intro n
  induction n using Nat.strongRecOn with
  | ind n ih =>
  intro cs x h hw
  obtain ⟨xs, m, rfl, rfl, hl, hlen, hf⟩ := DataW.trod_struct Try.underlying41 h
  match xs, hlen with
  | [y0, y1, y2], _ =>
  rw [cells41] at hl
  match cs, hl with
  | [v0, v1, v2], _ =>
  have h0 : DataW.trod enc Try.prog W 0 (fun _ => true) true m 3 (([v0, v1, v2].drop 0).take (Try.prog.cellsOf 3)) = some y0 := hf 0 _ rfl
  have h1 : DataW.trod enc Try.prog W 0 (fun _ => true) true m 3 (([v0, v1, v2].drop 1).take (Try.prog.cellsOf 3)) = some y1 := hf 1 _ rfl
  have h2 : DataW.trod enc Try.prog W 0 (fun _ => true) true m 39 (([v0, v1, v2].drop 2).take (Try.prog.cellsOf 39)) = some y2 := hf 2 _ rfl
  simp only [cells3, cells39, List.drop_zero, List.drop_succ_cons, List.take_succ_cons, List.take_zero] at h0 h1 h2
  obtain ⟨o, e0, rfl, _⟩ := DataW.trod_int Try.underlying3 h0
  obtain ⟨k, e1, rfl, _⟩ := DataW.trod_int Try.underlying3 h1
  simp only [List.cons.injEq, and_true] at e0 e1
  subst e0 e1
  obtain ⟨l, a, c, e3, hr⟩ := read_slice Try.underlying39 cells41 (by decide) bytes41 Od.enc m (fun m' hm' cs' x' h' hw' => by
    obtain ⟨t, a, c, rfl, hr⟩ := ih m' (by omega) cs' x' h' hw'
    exact ⟨t, repC_od hr⟩) h2 (fun y hy => hw y (by
      simp only [DataW.weights, Try.underlying41, List.map_cons, List.map_nil, DataW.weightsEach, List.append_nil, List.nil_append]
      exact hy))
  simp only [List.cons.injEq, and_true] at e3
  subst e3
  refine ⟨.mk o k l, a, c, ?_, ?_⟩
  · simp only [Od.op, Od.n, Od.parts, Od.encL_length]
  · simp only [Od.parts, Od.encL_eq, List.length_map] at hr ⊢
    exact hr

theorem arg_order {base : Nat} {v : Value} {d : DataW H} {p : List MemPlace} (hok : Value.okWide Try.prog W .any base 41 v) (h : DataW.Trod enc Try.prog W 0 (fun _ => true) true 41 v d p) (hw : ∀ y ∈ d.weights Try.prog 41, y ≤ reachBytes) :
    ∃ (t : Od) (a : Option Addr) (c : Nat), v = (odS t a c).den [] ∧ Rep (fun _ => True) W (odR t a c).1 (odR t a c).2 := by
  obtain ⟨cs, rfl, _⟩ := okWide_struct Try.underlying41 hok
  obtain ⟨n, hn⟩ := h
  obtain ⟨t, a, c, he, hr⟩ := read_order n _ _ hn hw
  refine ⟨t, a, c, ?_, hr⟩
  simp only [Value.cells] at he
  have : cs = #[.int .i64 t.op, .int .i64 t.n, .slice a (Od.encL t.parts).length c] := by
    rw [← Array.toList_inj, he]
  rw [this]
  rfl

/-- A list of terms. -/
theorem read_terms (n : Nat) (cs : List Value) (x : DataW H × List MemPlace) (h : DataW.trod enc Try.prog W 0 (fun _ => true) true n 22 cs = some x) (hw : ∀ y ∈ x.1.weights Try.prog 22, y ≤ reachBytes) :
    ∃ (l : List Tm) (a : Option Addr) (c : Nat), cs = [.slice a (Tm.encL l).length c] ∧ RepC (fun _ => True) W (.sl 4 (Tm.encL l)) cs := by
  obtain ⟨l, a, c, e3, hr⟩ := read_slice Try.underlying22 cells24 (by decide) bytes24 Tm.enc n (fun m' _ cs' x' h' hw' => by
    obtain ⟨t, a, c, rfl, hr⟩ := read_term m' cs' x' h' hw'
    exact ⟨t, repC_tm hr⟩) h hw
  exact ⟨l, a, c, by rw [e3, Tm.encL_length], by rw [Tm.encL_eq]; exact hr⟩

theorem arg_ints {base : Nat} {v : Value} {d : DataW H} {p : List MemPlace} (hok : Value.okWide Try.prog W .any base 50 v) (h : DataW.Trod enc Try.prog W 0 (fun _ => true) true 50 v d p) (hw : ∀ y ∈ d.weights Try.prog 50, y ≤ reachBytes) :
    ∃ (l : List Int) (a : Option Addr) (c : Nat), v = (intsS l a c).den [] ∧ Rep (fun _ => True) W (intsR l a c).1 (intsR l a c).2 := by
  obtain ⟨a0, l0, c0, rfl⟩ := okWide_slice Try.underlying50 hok
  obtain ⟨n, hn⟩ := h
  obtain ⟨l, a, c, e3, hr⟩ := read_slice Try.underlying50 cells3 (by decide) bytes3 (D.int .i64) n (fun m' _ cs' x' h' _ => by
    obtain ⟨k, rfl, _, _⟩ := DataW.trod_int Try.underlying3 h'
    exact ⟨k, rfl⟩) hn hw
  simp only [Value.cells, List.cons.injEq, Value.slice.injEq, and_true] at e3
  obtain ⟨rfl, rfl, rfl⟩ := e3
  exact ⟨l, _, _, rfl, hr⟩

theorem arg_pair {base : Nat} {v : Value} {d : DataW H} {p : List MemPlace} (hok : Value.okWide Try.prog W .any base 42 v) (h : DataW.Trod enc Try.prog W 0 (fun _ => true) true 42 v d p) :
    ∃ n fx : Int, v = (SV.agg [iS n, iS fx]).den [] := by
  obtain ⟨cs, rfl, _⟩ := okWide_arr Try.underlying42 hok
  obtain ⟨n, hn⟩ := h
  obtain ⟨xs, m, rfl, _, hl, hlen, hf⟩ := DataW.trod_array Try.underlying42 hn
  rw [cells42] at hl
  simp only [Value.cells] at hl hf
  obtain ⟨l⟩ := cs
  match l, hl with
  | [v0, v1], _ =>
  match xs, hlen with
  | [y0, y1], _ =>
  have h0 : DataW.trod enc Try.prog W 0 (fun _ => true) true m 3 (([v0, v1].drop (0 * Try.prog.cellsOf 3)).take (Try.prog.cellsOf 3)) = some y0 := hf 0 (by decide)
  have h1 : DataW.trod enc Try.prog W 0 (fun _ => true) true m 3 (([v0, v1].drop (1 * Try.prog.cellsOf 3)).take (Try.prog.cellsOf 3)) = some y1 := hf 1 (by decide)
  simp only [cells3, Nat.zero_mul, Nat.one_mul, List.drop_zero, List.drop_succ_cons, List.take_succ_cons, List.take_zero] at h0 h1
  obtain ⟨a, e0, rfl, _⟩ := DataW.trod_int Try.underlying3 h0
  obtain ⟨b, e1, rfl, _⟩ := DataW.trod_int Try.underlying3 h1
  simp only [List.cons.injEq, and_true] at e0 e1
  subst e0 e1
  exact ⟨a, b, rfl⟩

theorem arg_lists {base : Nat} {v : Value} {d : DataW H} {p : List MemPlace} (hok : Value.okWide Try.prog W .any base 43 v) (h : DataW.Trod enc Try.prog W 0 (fun _ => true) true 43 v d p) (hw : ∀ y ∈ d.weights Try.prog 43, y ≤ reachBytes) :
    ∃ (A B : List Tm) (a b : Option Addr) (c e : Nat), v = (SV.agg [.v (.slice a (Tm.encL A).length c), .v (.slice b (Tm.encL B).length e)]).den [] ∧ Rep (fun _ => True) W (.slice a (Tm.encL A).length c) (.sl 4 (Tm.encL A)) ∧ Rep (fun _ => True) W (.slice b (Tm.encL B).length e) (.sl 4 (Tm.encL B)) := by
  obtain ⟨cs, rfl, _⟩ := okWide_arr Try.underlying43 hok
  obtain ⟨n, hn⟩ := h
  obtain ⟨xs, m, rfl, hx, hl, hlen, hf⟩ := DataW.trod_array Try.underlying43 hn
  rw [cells43] at hl
  simp only [Value.cells] at hl hf
  obtain ⟨l⟩ := cs
  match l, hl with
  | [v0, v1], _ =>
  match xs, hlen with
  | [y0, y1], _ =>
  simp only [Prod.mk.injEq] at hx
  obtain ⟨rfl, _⟩ := hx
  have h0 : DataW.trod enc Try.prog W 0 (fun _ => true) true m 22 (([v0, v1].drop (0 * Try.prog.cellsOf 22)).take (Try.prog.cellsOf 22)) = some y0 := hf 0 (by decide)
  have h1 : DataW.trod enc Try.prog W 0 (fun _ => true) true m 22 (([v0, v1].drop (1 * Try.prog.cellsOf 22)).take (Try.prog.cellsOf 22)) = some y1 := hf 1 (by decide)
  simp only [cells22, Nat.zero_mul, Nat.one_mul, List.drop_zero, List.drop_succ_cons, List.take_succ_cons, List.take_zero] at h0 h1
  simp only [DataW.weights, Try.underlying43, List.map_cons, List.map_nil, DataW.weightsAll, List.append_nil, List.mem_append] at hw
  obtain ⟨A, a, c, e0, r0⟩ := read_terms m _ _ h0 (fun y hy => hw y (.inl hy))
  obtain ⟨B, b, e, e1, r1⟩ := read_terms m _ _ h1 (fun y hy => hw y (.inr hy))
  simp only [List.cons.injEq, and_true] at e0 e1
  subst e0 e1
  exact ⟨A, B, a, b, c, e, rfl, r0, r1⟩
end
end Go.Proofs.Ytjjgfenincdgpaa
