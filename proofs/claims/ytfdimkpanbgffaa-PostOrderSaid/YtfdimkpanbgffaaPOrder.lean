/-
  PostOrder: for every list of packets (of whatever length that memory bears) the law function returns true, and the list reads as it did. No condition.
-/
import Derived.Test.YtfdimkpanbgffaaRows
import Derived.WalkKit
import Derived.ProofKit
import Derived.OpenShut
import Derived.ShutString
import Derived.ChangeOld
import Derived.Below
import Derived.SizedLaws
import Derived.Test.YtfdimkpanbgffaaPostD
import Derived.Test.YtfdimkpanbgffaaOpen
namespace Go.Proofs.Ytfdimkpanbgffaa.postOrder
open Sl
open Go.ChangeShapes Go.WideShapes Go.ChangeAt Go.RowKit Go.Deep
set_option linter.unusedVariables false
set_option linter.unusedSimpArgs false

theorem own : ownKnob Try.prog.godebug = none := by kernel_rfl
theorem laidOut : laidOutB Try.prog = true := by kernel_rfl
section
variable {H : Type} {enc : TypeId × Value → H} {w0 : World}
theorem bytes_of : ∀ (es : List (List Value)), (∀ (i : Nat) (x : List Value), es[i]? = some x → ∃ n, x = [.int .u8 n]) → ∃ l, es = encB l
  | [], _ => ⟨[], rfl⟩
  | x :: es, h => by
    obtain ⟨n, rfl⟩ := h 0 x rfl
    obtain ⟨l, rfl⟩ := bytes_of es fun i y hy => h (i + 1) y (by simpa using hy)
    exact ⟨n :: l, rfl⟩
theorem open_bytes {fuel : Nat} {v : Value} {d : DataW H} {p : List MemPlace} (h : DataW.trod enc Try.prog w0 0 (fun _ => true) true fuel 39 [v] = some (d, p)) {B : Nat} (hB : ∀ n ∈ d.weights Try.prog 39, n ≤ B) :
    ∃ l, RdRow w0 0 1 v (encB l) ∧ l.length ≤ B := by
  obtain ⟨es, hr, hl, hi⟩ := open_rd Try.underlying39 (show Try.prog.cellsOf 5 = 1 by kernel_rfl) (by decide) h hB
  obtain ⟨l, rfl⟩ := bytes_of es fun i x hx => by
    obtain ⟨D, Pl, n, ht, _⟩ := hi i x hx
    obtain ⟨k, rfl, _, _⟩ := DataW.trod_int Try.underlying5 ht
    exact ⟨k, rfl⟩
  rw [encB_length, show Try.prog.bytesOf 5 = 1 by kernel_rfl, Nat.mul_one] at hl
  exact ⟨l, hr, hl⟩
theorem open_pk {fuel : Nat} {x : List Value} {d : DataW H} {p : List MemPlace} (h : DataW.trod enc Try.prog w0 0 (fun _ => true) true fuel 41 x = some (d, p)) (hB : ∀ n ∈ d.weights Try.prog 41, n ≤ reachBytes) :
    ∃ q, RdPk w0 q x := by
  obtain ⟨y0, y1, y2, n, hd, hl, h0, h1, h2⟩ := trod_struct3 Try.underlying41 h
  simp only [Prod.mk.injEq] at hd
  obtain ⟨rfl, rfl⟩ := hd
  rw [show Try.prog.cellsOf 41 = 3 by kernel_rfl] at hl
  obtain ⟨c0, c1, c2, rfl⟩ : ∃ c0 c1 c2, x = [c0, c1, c2] := by
    match x, hl with
    | [c0, c1, c2], _ => exact ⟨c0, c1, c2, rfl⟩
  have h0' : DataW.trod enc Try.prog w0 0 (fun _ => true) true n 3 (([c0, c1, c2].drop 0).take (Try.prog.cellsOf 3)) = some y0 := h0
  have h1' : DataW.trod enc Try.prog w0 0 (fun _ => true) true n 3 (([c0, c1, c2].drop 1).take (Try.prog.cellsOf 3)) = some y1 := h1
  have h2' : DataW.trod enc Try.prog w0 0 (fun _ => true) true n 39 (([c0, c1, c2].drop 2).take (Try.prog.cellsOf 39)) = some y2 := h2
  rw [show Try.prog.cellsOf 3 = 1 by kernel_rfl] at h0' h1'
  rw [show Try.prog.cellsOf 39 = 1 by kernel_rfl] at h2'
  obtain ⟨s, hs, _, _⟩ := DataW.trod_int Try.underlying3 h0'
  obtain ⟨t, ht, _, _⟩ := DataW.trod_int Try.underlying3 h1'
  simp only [List.drop_zero, List.drop_succ_cons, List.take_succ_cons, List.take_zero, List.cons.injEq, and_true] at hs ht
  subst hs; subst ht
  obtain ⟨l, hr, hll⟩ := open_bytes (d := y2.1) (p := y2.2) h2' (fun m hm => hB m (by
    simp only [DataW.weights, Try.underlying41]
    exact DataW.weights_mem_each (j := 2) (t := 39) rfl rfl m hm))
  exact ⟨⟨s, t, l⟩, c2, rfl, hr, Nat.le_of_lt (Nat.lt_of_le_of_lt hll reachBytes_lt)⟩
theorem pks_of {es : List (List Value)} : (∀ (i : Nat) (x : List Value), es[i]? = some x → ∃ q, RdPk w0 q x) → ∃ ps : List Pk, es.length = ps.length ∧ ∀ (i : Nat) (q : Pk), ps[i]? = some q → ∃ e, es[i]? = some e ∧ RdPk w0 q e := by
  induction es with
  | nil => exact fun _ => ⟨[], rfl, fun i q h => by simp at h⟩
  | cons x es ih =>
    intro h
    obtain ⟨q, hq⟩ := h 0 x rfl
    obtain ⟨ps, hl, hp⟩ := ih fun i y hy => h (i + 1) y (by simpa using hy)
    refine ⟨q :: ps, by simp [hl], fun i q' h' => ?_⟩
    cases i with
    | zero =>
      simp only [List.getElem?_cons_zero, Option.some.injEq] at h'
      subst h'
      exact ⟨x, rfl, hq⟩
    | succ i => exact hp i q' (by simpa using h')
theorem open_pks {fuel : Nat} {v : Value} {d : DataW H} {p : List MemPlace} (h : DataW.trod enc Try.prog w0 0 (fun _ => true) true fuel 36 [v] = some (d, p)) (hB : ∀ n ∈ d.weights Try.prog 36, n ≤ reachBytes) :
    ∃ ps, RdPks w0 v ps ∧ ps.length ≤ 17592186044416 := by
  obtain ⟨es, hr, hl, hi⟩ := open_rd Try.underlying36 (show Try.prog.cellsOf 41 = 3 by kernel_rfl) (by decide) h hB
  obtain ⟨ps, hlen, hps⟩ := pks_of (w0 := w0) (es := es) fun i x hx => by
    obtain ⟨D, Pl, n, ht, hw⟩ := hi i x hx
    exact open_pk ht hw
  rw [show Try.prog.bytesOf 41 = 40 by kernel_rfl] at hl
  have := reachBytes_lt
  exact ⟨ps, ⟨es, hr, hlen, hps⟩, by omega⟩
end
/-! ### The walk -/
theorem walk (v : Value) (ps : List Pk) (w : World) (hv : RdPks w v ps) (hl : ps.length ≤ 17592186044416) :
    Calls Try.prog 6 #[v] w fun e w' => e = .returned (.bool true) ∧ Below w.heap.size w w' := by
  have h := postOrder_spec w v ps hv hl w 0 (by rw [hzero_add]; exact St.start w)
  refine h.mono ?_
  rintro e w' ⟨v, h', rfl, ⟨rfl, rfl⟩, hst⟩
  exact ⟨rfl, hst.below⟩

/-! ### The row's step -/
set_option maxRecDepth 100000 in
theorem lifted (os : Os) (started : os.Started) (H : Type) (enc : TypeId × Value → H) :
    ReturnsInHanded {} Try.checked os 6 .any (Rows.postOrderSpec.pre6 enc Try.prog Try.f6 Rows.postOrderRow.domain false) (Rows.postOrderSpec.post enc Try.prog Try.f6 false true false false) := by
  refine returnsInHanded_of_change_sized (C := Try.checked) own started (by kernel_rfl) Try.func6
    (ChangeSpec.witness6 (enc := enc) (C := Try.checked) false ⟨#[], #[.slice none 0 0], []⟩ 8 (by kernel_rfl) (by kernel_rfl) (by kernel_rfl) (by kernel_rfl)) ?_
  intro W base args ds gs before hval0 hW hcnd hsz0 _
  have hsz : (DataW.weightsEach Try.prog (Try.f6.params.toList ++ Rows.postOrderSpec.plain.varTypes Try.prog) (ds ++ gs)).all (· ≤ reachBytes) = true := hsz0
  clear hsz0
  have hval : ∀ (j : Nat) t v, Try.f6.params[j]? = some t → args[j]? = some v → Value.okWide Try.prog W .any base t v := hval0
  have hW' := hW
  obtain ⟨p, q, hA0, hV, rfl, hfz, hnd⟩ := hW
  have hA : DataW.TrodAll enc Try.prog W 0 (fun _ => true) true Try.f6.params.toList args.toList ds p := hA0
  rw [Try.params6] at hA hval
  obtain ⟨v0, vs0, d0, ds0, p0, q0, hargs, rfl, rfl, h0, r0⟩ := trodAll_cons hA
  obtain ⟨rfl, rfl, rfl⟩ := trodAll_nil r0
  obtain rfl : args = #[v0] := by cases args; simp_all
  obtain ⟨rfl, rfl⟩ := trodVars_none hV
  obtain ⟨a0, len0, cap0, rfl⟩ := okWide_slice Try.underlying36 (hval 0 36 v0 rfl rfl)
  have k0 := h0
  have lt0 : ∀ x ∈ p0, x.block < W.heap.size := by obtain ⟨m, hm⟩ := k0; exact DataW.trod_lt m _ _ _ hm
  obtain ⟨ps, w0, hl⟩ : ∃ ps, RdPks W (.slice a0 len0 cap0) ps ∧ ps.length ≤ 17592186044416 := by
    obtain ⟨fuel, hf⟩ := h0
    exact open_pks hf fun m hm => by simpa using List.all_eq_true.1 hsz m (DataW.weights_mem_each (j := 0) (t := 36) rfl rfl m hm)
  clear hA0 hval0 hsz
  refine (walk _ ps W w0 hl).mono fun e W' ⟨he, bel⟩ => ?_
  subst he
  exact ⟨_, rfl, _, _, _, [], _, [], hW', trodAll_mk1 (shut_bool Try.underlying4 _), (trodAll_cons_mk (Below.trod laidOut (by kernel_rfl) (of_decide_eq_true (by kernel_rfl)) k0 bel lt0) trodAll_mk0), rfl, bel.frame _, fun h => by cases h⟩

theorem over : Rows.postOrderRow.holds Try.pinned (OpenSpec.ofChange Rows.postOrderSpec) :=
  OpenClaim.holds_of_wide 6 Try.f6 rfl rfl rfl rfl rfl rfl rfl ⟨rfl, rfl, rfl, rfl, rfl⟩ rfl rfl rfl rfl rfl (by kernel_rfl) Try.func6 (by kernel_rfl)
    (of_decide_eq_true (by kernel_rfl)) (by unfold Func.isWrapper; first | (rw [if_pos (by decide +kernel)]; kernel_rfl) | (rw [if_neg (by decide +kernel)]; exact ⟨rfl, rfl⟩))
    (fun os started H enc _ => lifted os started H enc)

/-- The statement. -/
theorem proved : Rows.PostOrderSaid := over
end Go.Proofs.Ytfdimkpanbgffaa.postOrder
