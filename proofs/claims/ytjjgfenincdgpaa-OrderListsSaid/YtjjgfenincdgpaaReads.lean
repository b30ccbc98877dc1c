/- How the arguments of the laws read: terms, orders. Condition: each slice that is met weighs no more than the form's own reach. -/
import Derived.Test.YtjjgfenincdgpaaLawB
import Derived.Test.YtjjgfenincdgpaaFwR
namespace Go.Proofs.Ytjjgfenincdgpaa
open Go.Tr Go
set_option maxRecDepth 10000

theorem cells3 : Try.prog.cellsOf 3 = 1 := by kernel_rfl
theorem cells22 : Try.prog.cellsOf 22 = 1 := by kernel_rfl
theorem cells24 : Try.prog.cellsOf 24 = 4 := by kernel_rfl
theorem bytes24 : 1 ≤ Try.prog.bytesOf 24 := by decide +kernel

section
variable {H : Type} {enc : TypeId × Value → H} {W : World}

theorem repC_tm {W : World} {t : Tm} {a : Option Addr} {c : Nat} (h : RepC (fun _ => True) W (.sl 4 (Tm.encL t.args)) [.slice a (Tm.encL t.args).length c]) : RepC (fun _ => True) W t.enc [.int .i64 t.op, .int .i64 t.hd, .int .i64 t.n, .slice a (Tm.encL t.args).length c] := by
  rw [Tm.enc_eq]
  exact ⟨[.int .i64 t.op], _, rfl, rfl, [.int .i64 t.hd], _, rfl, rfl, [.int .i64 t.n], _, rfl, rfl, [.slice a (Tm.encL t.args).length c], [], rfl, h, rfl⟩

theorem read_term : ∀ (n : Nat) (cs : List Value) (x : DataW H × List MemPlace), DataW.trod enc Try.prog W 0 (fun _ => true) true n 24 cs = some x → (∀ y ∈ x.1.weights Try.prog 24, y ≤ reachBytes) →
    ∃ (t : Tm) (a : Option Addr) (c : Nat), cs = [.int .i64 t.op, .int .i64 t.hd, .int .i64 t.n, .slice a (Tm.encL t.args).length c] ∧ RepC (fun _ => True) W (.sl 4 (Tm.encL t.args)) [.slice a (Tm.encL t.args).length c] := by
  intro n
  induction n using Nat.strongRecOn with
  | ind n ih =>
  intro cs x h hw
  obtain ⟨xs, m, rfl, rfl, hl, hlen, hf⟩ := DataW.trod_struct Try.underlying24 h
  match xs, hlen with
  | [y0, y1, y2, y3], _ =>
  rw [cells24] at hl
  match cs, hl with
  | [v0, v1, v2, v3], _ =>
  have h0 : DataW.trod enc Try.prog W 0 (fun _ => true) true m 3 (([v0, v1, v2, v3].drop 0).take (Try.prog.cellsOf 3)) = some y0 := hf 0 _ rfl
  have h1 : DataW.trod enc Try.prog W 0 (fun _ => true) true m 3 (([v0, v1, v2, v3].drop 1).take (Try.prog.cellsOf 3)) = some y1 := hf 1 _ rfl
  have h2 : DataW.trod enc Try.prog W 0 (fun _ => true) true m 3 (([v0, v1, v2, v3].drop 2).take (Try.prog.cellsOf 3)) = some y2 := hf 2 _ rfl
  have h3 : DataW.trod enc Try.prog W 0 (fun _ => true) true m 22 (([v0, v1, v2, v3].drop 3).take (Try.prog.cellsOf 22)) = some y3 := hf 3 _ rfl
  simp only [cells3, cells22, List.drop_zero, List.drop_succ_cons, List.take_succ_cons, List.take_zero] at h0 h1 h2 h3
  obtain ⟨o, e0, rfl, _⟩ := DataW.trod_int Try.underlying3 h0
  obtain ⟨hd, e1, rfl, _⟩ := DataW.trod_int Try.underlying3 h1
  obtain ⟨k, e2, rfl, _⟩ := DataW.trod_int Try.underlying3 h2
  simp only [List.cons.injEq, and_true] at e0 e1 e2
  subst e0 e1 e2
  obtain ⟨l, a, c, e3, hr⟩ := read_slice Try.underlying22 cells24 (by decide) bytes24 Tm.enc m (fun m' hm' cs' x' h' hw' => by
    obtain ⟨t, a, c, rfl, hr⟩ := ih m' (by omega) cs' x' h' hw'
    exact ⟨t, repC_tm hr⟩) h3 (fun y hy => hw y (by
      simp only [DataW.weights, Try.underlying24, List.map_cons, List.map_nil, DataW.weightsEach, List.append_nil, List.nil_append]
      exact hy))
  simp only [List.cons.injEq, and_true] at e3
  subst e3
  refine ⟨.mk o hd k l, a, c, ?_, ?_⟩
  · simp only [Tm.op, Tm.hd, Tm.n, Tm.args, Tm.encL_length]
  · simp only [Tm.args, Tm.encL_eq, List.length_map] at hr ⊢
    exact hr

/-- A term that is handed in. -/
theorem arg_term {base : Nat} {v : Value} {d : DataW H} {p : List MemPlace} (hok : Value.okWide Try.prog W .any base 24 v) (h : DataW.Trod enc Try.prog W 0 (fun _ => true) true 24 v d p) (hw : ∀ y ∈ d.weights Try.prog 24, y ≤ reachBytes) :
    ∃ (t : Tm) (a : Option Addr) (c : Nat), v = (tmS t a c).den [] ∧ Rep (fun _ => True) W (tmR t a c).1 (tmR t a c).2 := by
  obtain ⟨cs, rfl, _⟩ := Go.WideShapes.okWide_struct Try.underlying24 hok
  obtain ⟨n, hn⟩ := h
  obtain ⟨t, a, c, he, hr⟩ := read_term n _ _ hn hw
  refine ⟨t, a, c, ?_, hr⟩
  simp only [Value.cells] at he
  have : cs = #[.int .i64 t.op, .int .i64 t.hd, .int .i64 t.n, .slice a (Tm.encL t.args).length c] := by
    rw [← Array.toList_inj, he]
  rw [this]
  rfl

theorem arg_int {base : Nat} {v : Value} {d : DataW H} {p : List MemPlace} (hok : Value.okWide Try.prog W .any base 3 v) (h : DataW.Trod enc Try.prog W 0 (fun _ => true) true 3 v d p) :
    ∃ n : Int, v = (iS n).den [] ∧ (Lit.int .i64 n).wf = true := by
  obtain ⟨n, rfl, _, _, hwf⟩ := Go.ChangeShapes.open_int Try.underlying3 hok h
  exact ⟨n, rfl, hwf⟩
end
end Go.Proofs.Ytjjgfenincdgpaa
