/-
  What came in to the laws of the locks: acts, spans.
-/
import Derived.Test.YtdbmmnpnhpiecaaLkIn
import Derived.Test.YtdbmmnpnhpiecaaLkT
namespace Go.Proofs.Ytdbmmnpnhpiecaa.lkIn
open Sl
open Go.ChangeShapes Go.WideShapes Go.ChangeAt Go.RowKit Go.Deep Go.Joins
set_option linter.unusedVariables false
set_option linter.unusedSimpArgs false
section
variable {H : Type} {enc : TypeId × Value → H} {w0 : World}
theorem open_act {fuel : Nat} {x : List Value} {d : DataW H} {p : List MemPlace} (h : DataW.trod enc Try.prog w0 0 (fun _ => true) true fuel 37 x = some (d, p)) (hB : ∀ n ∈ d.weights Try.prog 37, n ≤ reachBytes) :
    ∃ q, RdAct w0 q x := by
  obtain ⟨y0, y1, y2, n, hd, hl, h0, h1, h2⟩ := trod_struct3 Try.underlying37 h
  simp only [Prod.mk.injEq] at hd
  obtain ⟨rfl, rfl⟩ := hd
  rw [show Try.prog.cellsOf 37 = 6 by kernel_rfl] at hl
  obtain ⟨c0, c1, c2, c3, c4, c5, rfl⟩ : ∃ c0 c1 c2 c3 c4 c5, x = [c0, c1, c2, c3, c4, c5] := by
    match x, hl with
    | [c0, c1, c2, c3, c4, c5], _ => exact ⟨c0, c1, c2, c3, c4, c5, rfl⟩
  have h0' : DataW.trod enc Try.prog w0 0 (fun _ => true) true n 24 (([c0, c1, c2, c3, c4, c5].drop 0).take (Try.prog.cellsOf 24)) = some y0 := h0
  have h1' : DataW.trod enc Try.prog w0 0 (fun _ => true) true n 25 (([c0, c1, c2, c3, c4, c5].drop 4).take (Try.prog.cellsOf 25)) = some y1 := h1
  have h2' : DataW.trod enc Try.prog w0 0 (fun _ => true) true n 4 (([c0, c1, c2, c3, c4, c5].drop 5).take (Try.prog.cellsOf 4)) = some y2 := h2
  rw [show Try.prog.cellsOf 24 = 4 by kernel_rfl] at h0'
  rw [show Try.prog.cellsOf 25 = 1 by kernel_rfl] at h1'
  rw [show Try.prog.cellsOf 4 = 1 by kernel_rfl] at h2'
  obtain ⟨k, hk⟩ := open_lock (d := y0.1) (p := y0.2) h0'
  obtain ⟨b, hb, _⟩ := DataW.trod_bool Try.underlying4 h2'
  simp only [List.drop_zero, List.drop_succ_cons, List.take_succ_cons, List.take_zero, List.cons.injEq, and_true, cellsL] at hk hb
  obtain ⟨rfl, rfl, rfl, rfl⟩ := hk
  subst hb
  obtain ⟨l, hr, hll⟩ := open_ints (d := y1.1) (p := y1.2) h1' (fun m hm => hB m (by
    simp only [DataW.weights, Try.underlying37]
    exact DataW.weights_mem_each (j := 1) (t := 25) rfl rfl m hm))
  exact ⟨⟨k, l, b⟩, c4, rfl, hr, by show l.length ≤ 17592186044416; have := reachBytes_lt; omega⟩
theorem acts_of {es : List (List Value)} : (∀ (i : Nat) (x : List Value), es[i]? = some x → ∃ q, RdAct w0 q x) → ∃ ps : List Sl.Act, es.length = ps.length ∧ ∀ (i : Nat) (q : Sl.Act), ps[i]? = some q → ∃ e, es[i]? = some e ∧ RdAct w0 q e := by
  induction es with
  | nil => exact fun _ => ⟨[], rfl, fun i q h => by simp at h⟩
  | cons x es ih =>
    intro h
    obtain ⟨q, hq⟩ := h 0 x rfl
    obtain ⟨ps, hl, hp⟩ := ih fun i y hy => h (i + 1) y (by simpa using hy)
    refine ⟨q :: ps, by simp [hl], fun i q' h' => ?_⟩
    cases i with
    | zero =>
      simp only [List.getElem?_cons_zero, Option.some.injEq] at h'
      subst h'
      exact ⟨x, rfl, hq⟩
    | succ i => exact hp i q' (by simpa using h')
theorem open_acts {fuel : Nat} {v : Value} {d : DataW H} {p : List MemPlace} (h : DataW.trod enc Try.prog w0 0 (fun _ => true) true fuel 34 [v] = some (d, p)) (hB : ∀ n ∈ d.weights Try.prog 34, n ≤ reachBytes) :
    ∃ l, RdActs w0 v l ∧ l.length * 64 ≤ reachBytes := by
  obtain ⟨es, hr, hl, hi⟩ := open_rd Try.underlying34 (show Try.prog.cellsOf 37 = 6 by kernel_rfl) (by decide) h hB
  obtain ⟨ps, hlen, hps⟩ := acts_of (w0 := w0) (es := es) fun i x hx => by
    obtain ⟨D, Pl, n, ht, hw⟩ := hi i x hx
    exact open_act ht hw
  rw [show Try.prog.bytesOf 37 = 64 by kernel_rfl] at hl
  exact ⟨ps, ⟨es, hr, hlen, hps⟩, by omega⟩
theorem open_span {cs : Array Value} {d : DataW H} {p : List MemPlace} (h : DataW.Trod enc Try.prog w0 0 (fun _ => true) true 41 (.agg cs) d p) : ∃ x y : Int, cs = [.int .i64 x, .int .i64 y].toArray := by
  obtain ⟨fuel, hf⟩ := h
  obtain ⟨y0, y1, n, hd, hl, h0, h1⟩ := trod_struct2 (cs := cs.toList) Try.underlying41 hf
  rw [show Try.prog.cellsOf 41 = 2 by kernel_rfl] at hl
  obtain ⟨c0, c1, hcs⟩ : ∃ c0 c1, cs.toList = [c0, c1] := by
    match cs.toList, hl with
    | [c0, c1], _ => exact ⟨c0, c1, rfl⟩
  rw [hcs] at h0 h1
  have h0' : DataW.trod enc Try.prog w0 0 (fun _ => true) true n 3 (([c0, c1].drop 0).take (Try.prog.cellsOf 3)) = some y0 := h0
  have h1' : DataW.trod enc Try.prog w0 0 (fun _ => true) true n 3 (([c0, c1].drop 1).take (Try.prog.cellsOf 3)) = some y1 := h1
  rw [show Try.prog.cellsOf 3 = 1 by kernel_rfl] at h0' h1'
  obtain ⟨s, hs, _, _⟩ := DataW.trod_int Try.underlying3 h0'
  obtain ⟨t, ht, _, _⟩ := DataW.trod_int Try.underlying3 h1'
  simp only [List.drop_zero, List.drop_succ_cons, List.take_succ_cons, List.take_zero, List.cons.injEq, and_true] at hs ht
  subst hs; subst ht
  exact ⟨s, t, by apply Array.ext'; rw [hcs]⟩
end
end Go.Proofs.Ytdbmmnpnhpiecaa.lkIn
