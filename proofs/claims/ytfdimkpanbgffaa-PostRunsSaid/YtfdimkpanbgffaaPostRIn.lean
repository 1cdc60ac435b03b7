/-
  What came in to the law PostRuns: calls, with bytes within 0 and 255.
-/
import Derived.Test.YtfdimkpanbgffaaPostIn
import Derived.Test.YtfdimkpanbgffaaPostR
namespace Go.Proofs.Ytfdimkpanbgffaa.postIn
open Sl
open Go.ChangeShapes Go.WideShapes Go.ChangeAt Go.RowKit Go.Deep Go.Joins
set_option linter.unusedVariables false
set_option linter.unusedSimpArgs false
section
variable {H : Type} {enc : TypeId × Value → H} {w0 : World}
theorem bytes_ofB : ∀ (es : List (List Value)), (∀ (i : Nat) (x : List Value), es[i]? = some x → ∃ n : Int, x = [.int .u8 n] ∧ 0 ≤ n ∧ n < 256) → ∃ l, es = encB l ∧ InB l
  | [], _ => ⟨[], rfl, by simp [InB]⟩
  | x :: es, h => by
    obtain ⟨n, rfl, hn⟩ := h 0 x rfl
    obtain ⟨l, rfl, hl⟩ := bytes_ofB es fun i y hy => h (i + 1) y (by simpa using hy)
    exact ⟨n :: l, rfl, fun m hm => by rcases List.mem_cons.1 hm with rfl | hm; exact hn; exact hl m hm⟩
theorem open_bytesB {fuel : Nat} {v : Value} {d : DataW H} {p : List MemPlace} (h : DataW.trod enc Try.prog w0 0 (fun _ => true) true fuel 39 [v] = some (d, p)) {B : Nat} (hB : ∀ n ∈ d.weights Try.prog 39, n ≤ B) :
    ∃ l, RdRow w0 0 1 v (encB l) ∧ l.length ≤ B ∧ InB l := by
  obtain ⟨es, hr, hl, hi⟩ := open_rd Try.underlying39 (show Try.prog.cellsOf 5 = 1 by kernel_rfl) (by decide) h hB
  obtain ⟨l, rfl, hin⟩ := bytes_ofB es fun i x hx => by
    obtain ⟨D, Pl, n, ht, _⟩ := hi i x hx
    obtain ⟨k, rfl, _, hwf⟩ := DataW.trod_int Try.underlying5 ht
    have hwf' : 0 ≤ k ∧ k ≤ 255 := by simpa [Lit.wf, IntKind.min, IntKind.max, IntKind.signed, IntKind.bits] using hwf
    exact ⟨k, rfl, hwf'.1, by omega⟩
  rw [encB_length, show Try.prog.bytesOf 5 = 1 by kernel_rfl, Nat.mul_one] at hl
  exact ⟨l, hr, hl, hin⟩
theorem open_opB {fuel : Nat} {x : List Value} {d : DataW H} {p : List MemPlace} (h : DataW.trod enc Try.prog w0 0 (fun _ => true) true fuel 59 x = some (d, p)) (hB : ∀ n ∈ d.weights Try.prog 59, n ≤ reachBytes) :
    ∃ q, RdOp w0 q x ∧ InB q.data := by
  obtain ⟨y0, y1, y2, y3, n, hd, hl, h0, h1, h2, h3⟩ := trod_struct4 Try.underlying59 h
  simp only [Prod.mk.injEq] at hd
  obtain ⟨rfl, rfl⟩ := hd
  rw [show Try.prog.cellsOf 59 = 4 by kernel_rfl] at hl
  obtain ⟨c0, c1, c2, c3, rfl⟩ : ∃ c0 c1 c2 c3, x = [c0, c1, c2, c3] := by
    match x, hl with
    | [c0, c1, c2, c3], _ => exact ⟨c0, c1, c2, c3, rfl⟩
  have h0' : DataW.trod enc Try.prog w0 0 (fun _ => true) true n 3 (([c0, c1, c2, c3].drop 0).take (Try.prog.cellsOf 3)) = some y0 := h0
  have h1' : DataW.trod enc Try.prog w0 0 (fun _ => true) true n 3 (([c0, c1, c2, c3].drop 1).take (Try.prog.cellsOf 3)) = some y1 := h1
  have h2' : DataW.trod enc Try.prog w0 0 (fun _ => true) true n 3 (([c0, c1, c2, c3].drop 2).take (Try.prog.cellsOf 3)) = some y2 := h2
  have h3' : DataW.trod enc Try.prog w0 0 (fun _ => true) true n 39 (([c0, c1, c2, c3].drop 3).take (Try.prog.cellsOf 39)) = some y3 := h3
  rw [show Try.prog.cellsOf 3 = 1 by kernel_rfl] at h0' h1' h2'
  rw [show Try.prog.cellsOf 39 = 1 by kernel_rfl] at h3'
  obtain ⟨s, hs, _, _⟩ := DataW.trod_int Try.underlying3 h0'
  obtain ⟨t, ht, _, _⟩ := DataW.trod_int Try.underlying3 h1'
  obtain ⟨u, hu, _, hwf⟩ := DataW.trod_int Try.underlying3 h2'
  simp only [List.drop_zero, List.drop_succ_cons, List.take_succ_cons, List.take_zero, List.cons.injEq, and_true] at hs ht hu
  subst hs; subst ht; subst hu
  obtain ⟨l, hr, hll, hin⟩ := open_bytesB (d := y3.1) (p := y3.2) h3' (fun m hm => hB m (by
    simp only [DataW.weights, Try.underlying59]
    exact DataW.weights_mem_each (j := 3) (t := 39) rfl rfl m hm))
  have hwf' : -9223372036854775808 ≤ u ∧ u ≤ 9223372036854775807 := by simpa [Lit.wf, IntKind.min, IntKind.max, IntKind.signed, IntKind.bits] using hwf
  exact ⟨⟨s, t, u, l⟩, ⟨c3, rfl, hr, Nat.le_of_lt (Nat.lt_of_le_of_lt hll reachBytes_lt), hwf'.2⟩, hin⟩
theorem ops_ofB {es : List (List Value)} : (∀ (i : Nat) (x : List Value), es[i]? = some x → ∃ q, RdOp w0 q x ∧ InB q.data) → ∃ ps : List OpA, es.length = ps.length ∧ (∀ (i : Nat) (q : OpA), ps[i]? = some q → ∃ e, es[i]? = some e ∧ RdOp w0 q e) ∧ ∀ q ∈ ps, InB q.data := by
  induction es with
  | nil => exact fun _ => ⟨[], rfl, fun i q h => by simp at h, by simp⟩
  | cons x es ih =>
    intro h
    obtain ⟨q, hq, hb⟩ := h 0 x rfl
    obtain ⟨ps, hl, hp, hbs⟩ := ih fun i y hy => h (i + 1) y (by simpa using hy)
    refine ⟨q :: ps, by simp [hl], fun i q' h' => ?_, fun q' hq' => by rcases List.mem_cons.1 hq' with rfl | hq'; exact hb; exact hbs _ hq'⟩
    cases i with
    | zero =>
      simp only [List.getElem?_cons_zero, Option.some.injEq] at h'
      subst h'
      exact ⟨x, rfl, hq⟩
    | succ i => exact hp i q' (by simpa using h')
theorem open_opsB {fuel : Nat} {v : Value} {d : DataW H} {p : List MemPlace} (h : DataW.trod enc Try.prog w0 0 (fun _ => true) true fuel 48 [v] = some (d, p)) (hB : ∀ n ∈ d.weights Try.prog 48, n ≤ reachBytes) :
    ∃ ps, RdOps w0 v ps ∧ ps.length ≤ 17592186044416 ∧ ∀ q ∈ ps, InB q.data := by
  obtain ⟨es, hr, hl, hi⟩ := open_rd Try.underlying48 (show Try.prog.cellsOf 59 = 4 by kernel_rfl) (by decide) h hB
  obtain ⟨ps, hlen, hps, hbs⟩ := ops_ofB (w0 := w0) (es := es) fun i x hx => by
    obtain ⟨D, Pl, n, ht, hw⟩ := hi i x hx
    exact open_opB ht hw
  rw [show Try.prog.bytesOf 59 = 48 by kernel_rfl] at hl
  have := reachBytes_lt
  exact ⟨ps, ⟨es, hr, hlen, hps⟩, by omega, hbs⟩
end
end Go.Proofs.Ytfdimkpanbgffaa.postIn
