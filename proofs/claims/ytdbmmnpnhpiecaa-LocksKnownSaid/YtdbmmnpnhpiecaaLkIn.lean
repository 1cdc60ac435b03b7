/-
  What came in to the laws of the locks: locks, numbers.
-/
import Derived.Test.YtdbmmnpnhpiecaaRows
import Derived.WalkKit
import Derived.ProofKit
import Derived.OpenShut
import Derived.ShutString
import Derived.ChangeOld
import Derived.Below
import Derived.SizedLaws
import Derived.Test.YtdbmmnpnhpiecaaLkA
import Derived.Test.YtdbmmnpnhpiecaaOpen
namespace Go.Proofs.Ytdbmmnpnhpiecaa.lkIn
open Sl
open Go.ChangeShapes Go.WideShapes Go.ChangeAt Go.RowKit Go.Deep Go.Joins
set_option linter.unusedVariables false
set_option linter.unusedSimpArgs false
theorem own : ownKnob Try.prog.godebug = none := by kernel_rfl
theorem laidOut : laidOutB Try.prog = true := by kernel_rfl
section
variable {H : Type} {enc : TypeId × Value → H} {w0 : World}
theorem ints_of : ∀ (es : List (List Value)), (∀ (i : Nat) (x : List Value), es[i]? = some x → ∃ n, x = [.int .i64 n]) → ∃ l, es = enc1 l
  | [], _ => ⟨[], rfl⟩
  | x :: es, h => by
    obtain ⟨n, rfl⟩ := h 0 x rfl
    obtain ⟨l, rfl⟩ := ints_of es fun i y hy => h (i + 1) y (by simpa using hy)
    exact ⟨n :: l, rfl⟩
theorem open_ints {fuel : Nat} {v : Value} {d : DataW H} {p : List MemPlace} (h : DataW.trod enc Try.prog w0 0 (fun _ => true) true fuel 25 [v] = some (d, p)) {B : Nat} (hB : ∀ n ∈ d.weights Try.prog 25, n ≤ B) :
    ∃ l, RdRow w0 0 1 v (enc1 l) ∧ l.length * 8 ≤ B := by
  obtain ⟨es, hr, hl, hi⟩ := open_rd Try.underlying25 (show Try.prog.cellsOf 3 = 1 by kernel_rfl) (by decide) h hB
  obtain ⟨l, rfl⟩ := ints_of es fun i x hx => by
    obtain ⟨D, Pl, n, ht, _⟩ := hi i x hx
    obtain ⟨k, rfl, _, _⟩ := DataW.trod_int Try.underlying3 ht
    exact ⟨k, rfl⟩
  rw [enc1_length, show Try.prog.bytesOf 3 = 8 by kernel_rfl] at hl
  exact ⟨l, hr, hl⟩
theorem open_lock {fuel : Nat} {x : List Value} {d : DataW H} {p : List MemPlace} (h : DataW.trod enc Try.prog w0 0 (fun _ => true) true fuel 24 x = some (d, p)) : ∃ k : Lk, x = cellsL k := by
  obtain ⟨y0, y1, y2, y3, n, hd, hl, h0, h1, h2, h3⟩ := trod_struct4 Try.underlying24 h
  rw [show Try.prog.cellsOf 24 = 4 by kernel_rfl] at hl
  obtain ⟨c0, c1, c2, c3, rfl⟩ : ∃ c0 c1 c2 c3, x = [c0, c1, c2, c3] := by
    match x, hl with
    | [c0, c1, c2, c3], _ => exact ⟨c0, c1, c2, c3, rfl⟩
  have h0' : DataW.trod enc Try.prog w0 0 (fun _ => true) true n 3 (([c0, c1, c2, c3].drop 0).take (Try.prog.cellsOf 3)) = some y0 := h0
  have h1' : DataW.trod enc Try.prog w0 0 (fun _ => true) true n 3 (([c0, c1, c2, c3].drop 1).take (Try.prog.cellsOf 3)) = some y1 := h1
  have h2' : DataW.trod enc Try.prog w0 0 (fun _ => true) true n 3 (([c0, c1, c2, c3].drop 2).take (Try.prog.cellsOf 3)) = some y2 := h2
  have h3' : DataW.trod enc Try.prog w0 0 (fun _ => true) true n 4 (([c0, c1, c2, c3].drop 3).take (Try.prog.cellsOf 4)) = some y3 := h3
  rw [show Try.prog.cellsOf 3 = 1 by kernel_rfl] at h0' h1' h2'
  rw [show Try.prog.cellsOf 4 = 1 by kernel_rfl] at h3'
  obtain ⟨s, hs, _, _⟩ := DataW.trod_int Try.underlying3 h0'
  obtain ⟨t, ht, _, _⟩ := DataW.trod_int Try.underlying3 h1'
  obtain ⟨u, hu, _, _⟩ := DataW.trod_int Try.underlying3 h2'
  obtain ⟨b, hb, _⟩ := DataW.trod_bool Try.underlying4 h3'
  simp only [List.drop_zero, List.drop_succ_cons, List.take_succ_cons, List.take_zero, List.cons.injEq, and_true] at hs ht hu hb
  subst hs; subst ht; subst hu; subst hb
  exact ⟨⟨s, t, u, b⟩, rfl⟩
theorem locks_of : ∀ (es : List (List Value)), (∀ (i : Nat) (x : List Value), es[i]? = some x → ∃ k, x = cellsL k) → ∃ l, es = encL l
  | [], _ => ⟨[], rfl⟩
  | x :: es, h => by
    obtain ⟨n, rfl⟩ := h 0 x rfl
    obtain ⟨l, rfl⟩ := locks_of es fun i y hy => h (i + 1) y (by simpa using hy)
    exact ⟨n :: l, rfl⟩
theorem open_locks {fuel : Nat} {v : Value} {d : DataW H} {p : List MemPlace} (h : DataW.trod enc Try.prog w0 0 (fun _ => true) true fuel 22 [v] = some (d, p)) {B : Nat} (hB : ∀ n ∈ d.weights Try.prog 22, n ≤ B) :
    ∃ l, RdRow w0 0 4 v (encL l) ∧ l.length * 32 ≤ B := by
  obtain ⟨es, hr, hl, hi⟩ := open_rd Try.underlying22 (show Try.prog.cellsOf 24 = 4 by kernel_rfl) (by decide) h hB
  obtain ⟨l, rfl⟩ := locks_of es fun i x hx => by
    obtain ⟨D, Pl, n, ht, _⟩ := hi i x hx
    exact open_lock ht
  rw [encL_length, show Try.prog.bytesOf 24 = 32 by kernel_rfl] at hl
  exact ⟨l, hr, hl⟩
theorem open_agg {cs : Array Value} {d : DataW H} {p : List MemPlace} (h : DataW.Trod enc Try.prog w0 0 (fun _ => true) true 24 (.agg cs) d p) : ∃ k : Lk, cs = [.int .i64 k.block, .int .i64 k.txn, .int .i64 k.age, .bool k.write].toArray := by
  obtain ⟨fuel, hf⟩ := h
  obtain ⟨k, hk⟩ := open_lock (x := cs.toList) hf
  refine ⟨k, ?_⟩
  apply Array.ext'
  rw [hk]; rfl
end
end Go.Proofs.Ytdbmmnpnhpiecaa.lkIn
