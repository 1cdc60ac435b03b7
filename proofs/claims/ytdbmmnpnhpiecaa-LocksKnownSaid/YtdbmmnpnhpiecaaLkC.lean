/-
  Three more kinds of operations: copy, append of so many zeros, slices.overlaps. No program in sight.
-/
import Derived.Test.YtdbmmnpnhpiecaaEff2
import Derived.Laws.CopyRow
import Derived.Lib.AppendZerosOnto
import Derived.Lib.Overlaps
namespace Go.Proofs.Ytdbmmnpnhpiecaa
open Go Go.RowKit
namespace Sl
set_option linter.unusedVariables false
set_option linter.unusedSimpArgs false
section
variable {P : Program} {w0 : World} {L : Hp} {g : Env}
theorem pv_cap {t e : TypeId} [hu : Und P t (.slice e)] {x : Operand} {ad : Option Addr} {len cap : Nat} (hx : ev g x = some (.slice ad len cap)) :
    PV P g (.call { callee := .builtin .cap, args := #[x], argTypes := #[t] }) (.int .i64 cap) := by
  intro o a w n ho ha
  unfold execOp
  simp [ho, resolve, invoke, builtin, ha.ev hx, Builtin.cap_, run_underlying hu.out, goInt]
theorem ev_copy {t e : TypeId} [hu : Und P t (.slice e)] {sz by' : Nat} {z : Value} [hi : Inf P e sz by' z] {x y : Operand} {v2 : Value} {ns : List (List Value)} {b o dLen dCap n : Nat} {c : List Value} {R : Hp}
    (hx : ev g x = some (.slice (some ⟨b, o, none⟩) dLen dCap)) (hy : ev g y = some v2) (hn : RdRow w0 L sz v2 ns) (h1 : ∀ x ∈ ns.take n, ∀ u ∈ x, u.oneCell' = true)
    [hf : HasPt b L (.cells c.toArray e (0, 0)) R] (hmin : Nat.min ns.length dLen = n) (hpos : 0 < n) (hsz : 0 < sz) (hfit : o + n * sz ≤ c.length) :
    EV P w0 L g (.call { callee := .builtin .copy, args := #[x, y], argTypes := #[t, t] }) fun u L' => u = .int .i64 n ∧
      L' = pt b (.cells (c.take o ++ (ns.take n).flatten ++ c.drop (o + n * sz)).toArray e (0, 0)) + R := by
  intro op a w m ho ha hst
  obtain ⟨i, i1, i2, i3, i4⟩ := hi.out
  obtain ⟨ad2, c2, rfl, hn⟩ := hn
  have hnl : n ≤ ns.length := by rw [← hmin]; exact Nat.min_le_left _ _
  have hlen : (ns.take n).flatten.length = n * sz := by rw [length_flat (fun x hx => hn.1 x (List.mem_of_mem_take hx)), List.length_take, Nat.min_eq_left hnl]
  obtain ⟨b2, o2, rfl, _⟩ := hn.2 0 ns[0] (List.getElem?_eq_getElem (by omega))
  have hsrc : ∀ j v, (ns.take n).flatten[j]? = some v → w.cell? ((⟨b2, o2, none⟩ : Addr).add j) = some v := by
    intro j v hv
    have hv' : ns.flatten[j]? = some v := by
      have hj := (List.getElem?_eq_some_iff.1 hv).1
      have e1 : ns.flatten = (ns.take n).flatten ++ (ns.drop n).flatten := by rw [← List.flatten_append, List.take_append_drop]
      rw [e1, List.getElem?_append_left hj]; exact hv
    obtain ⟨b3, o3, e3, hr⟩ := hn.flat hv'
    cases e3
    rw [add_none]; exact hr w hst
  have hheap := hst.at hf
  have hl := run_loadCells_list (P := P) (w := w) ⟨b2, o2, none⟩ (ns.take n).flatten hsrc
  have h1' : ∀ v ∈ (ns.take n).flatten, v.oneCell' = true := fun u hu => by
    obtain ⟨q, hq, hum⟩ := List.mem_flatten.1 hu
    exact h1 q hq u hum
  have hs := run_storeCells_at (P := P) b o e (ns.take n).flatten 0 c.toArray w hheap (by simp only [Nat.add_zero, List.size_toArray, hlen]; exact hfit) h1'
  have hst' : St w0 w (pt b (.cells c.toArray e (0, 0)) + R) := by rw [hf.out] at hst; exact hst
  refine ⟨.int .i64 n, w.setRow b (c.toArray.toList.take o ++ (ns.take n).flatten ++ c.toArray.toList.drop (o + (ns.take n).flatten.length)).toArray, _, .inl ?_, ⟨rfl, rfl⟩, ?_⟩
  · unfold execOp
    simp only [ho, resolve, invoke, builtin, ha.ev hx, ha.ev hy, List.map_toArray, List.map_cons, List.map_nil, pure_bind]
    simp only [hlen] at hl
    simp only [hlen, Nat.add_zero] at hs ⊢
    simp [Builtin.copy_, run_underlying hu.out, Builtin.lenOf, Builtin.firstCells, sizeOf, typeInfo, i1, i2, hmin, hl, hs, goInt]
  · refine hst'.set ?_ (fun k hk => setRow_other w b k _ hk) (by simp) rfl rfl rfl
    rw [setRow_heap w b _ _ e (0, 0) hheap, hlen]
theorem ev_append_zeros {t tn e : TypeId} [hu : Und P t (.slice e)] [hun : Und P tn (.int .i64)] {sz by' : Nat} {z : Value} [hi : Inf P e sz by' z] {x y : Operand} {b nx cap k : Nat} {c olds : List Value} {R : Hp}
    (hx : ev g x = some (.slice (some ⟨b, 0, none⟩) nx cap)) (hy : ev g y = some (.int .i64 (k : Int))) [hf : HasPt b L (.cells c.toArray e (0, 0)) R] (hold : c.take (nx * sz) = olds) (hnx : nx * sz ≤ c.length) (hk : 0 < k)
    (hsz : (sz == 0) = false) (hzs : (z.cells.size == sz) = true) (hroom : cap < nx + k) (hby : (by' == 0) = false) (hb : (nx + k) * by' ≤ 140737488355328) :
    EV P w0 L g (.call { callee := .builtin .append, args := #[x, y], argTypes := #[t, tn] }) fun u L' => ∃ (b2 cap2 : Nat) (spare : List Value), u = .slice (some ⟨b2, 0, none⟩) (nx + k) cap2 ∧ nx + k ≤ cap2 ∧ cap2 ≤ maxLen ∧ spare.length = (cap2 - (nx + k)) * sz ∧
      L' = pt b2 (.cells (olds ++ (List.replicate k z.cells.toList).flatten ++ spare).toArray e (0, 0)) + L := by
  intro op a w m ho ha hst
  obtain ⟨i, i1, i2, i3, i4⟩ := hi.out
  have hby' : 1 ≤ by' := by have : by' ≠ 0 := by simpa using hby
                            omega
  have hsz' : 1 ≤ sz := by have : sz ≠ 0 := by simpa using hsz
                           omega
  have hzs' : z.cells.size = sz := by simpa using hzs
  have hheap := hst.at hf
  have hlen : nx + k ≤ 140737488355328 := Nat.le_trans (Nat.le_mul_of_pos_right _ hby') hb
  have hol : olds.length = nx * sz := by rw [← hold, List.length_take]; omega
  have hsrc : ∀ j v, olds[j]? = some v → w.drew.cell? ((⟨b, 0, none⟩ : Addr).add j) = some v := by
    intro j v hv
    rw [add_none, Nat.zero_add]
    have hj := (List.getElem?_eq_some_iff.1 hv).1
    rw [← hold, List.getElem?_take, if_pos (by omega)] at hv
    show (w.drew).cell? _ = _
    have hh : w.drew.heap[b]? = some (.cells c.toArray e (0, 0)) := hheap
    simp [World.cell?, hh, hv]
  have hl := run_loadCells_list (P := P) (w := w.drew) ⟨b, 0, none⟩ olds hsrc
  rw [hol] at hl
  have hfc : (Builtin.firstCells i.size nx (.slice (some ⟨b, 0, none⟩) nx cap)).run P w.drew = .ok olds.toArray w.drew := by
    simp only [Builtin.firstCells, i2]; exact hl
  have hfits : Builtin.nextslicecap (nx + k) cap * by' ≤ 281474976710656 := growslice_fits (by omega) hb
  have hrun := Lib.run_append_grow_zeros (P := P) w t tn op.type e i z .i64 .i64 hu.out hun.out i1 i4 (some ⟨b, 0, none⟩) nx cap olds hfc k hk (by omega) hroom (by omega)
    (by rw [i3]; exact Nat.le_trans (Nat.mul_le_mul_right _ (by omega : k ≤ nx + k)) (by omega)) (by rw [i3]; exact hfits)
  refine ⟨_, w.drew.alloc (.cells (olds.toArray ++ Builtin.zeroCells z.cells k ++ Builtin.zeroCells z.cells (grownCap w (nx + k) cap e - (nx + k))) e), _, .inl ?_, ⟨w.heap.size, grownCap w (nx + k) cap e, (Builtin.zeroCells z.cells (grownCap w (nx + k) cap e - (nx + k))).toList, rfl, grownCap_ge w _ _ _, grownCap_le_maxLen w _ _ _ (by unfold maxLen; omega), ?_, rfl⟩, ?_⟩
  · unfold execOp
    simp only [ho, resolve, invoke, builtin, ha.ev hx, ha.ev hy, List.map_toArray, List.map_cons, List.map_nil, pure_bind, Sem.run_bind, hrun, Result.andThen_ok, Sem.run_pure]
  · simp only [Array.length_toList, size_zeroCells, hzs']
  · have e1 : (olds ++ (List.replicate k z.cells.toList).flatten ++ (Builtin.zeroCells z.cells (grownCap w (nx + k) cap e - (nx + k))).toList).toArray = olds.toArray ++ Builtin.zeroCells z.cells k ++ Builtin.zeroCells z.cells (grownCap w (nx + k) cap e - (nx + k)) := by
      apply Array.ext'
      simp [zeroCells_eq]
    rw [e1]
    exact hst.drew.alloc _
theorem ev_overlaps {t tR e : TypeId} [hu : Und P t (.slice e)] {sz by' : Nat} {z : Value} [hi : Inf P e sz by' z] {k : FuncId} {fn : Func} {x y : Operand} {ts : Array TypeId} {a b la ca lb cb ob : Nat} {c1 c2 : List Value} {e1 e2 : TypeId} {R : Hp}
    (hfn : P.funcs[k]? = some fn) (hname : (fn.name == "runtime.NumGoroutine") = false) (hb : fn.body.isNone = true) (hn : Extern.findNext fn = none) (he : Extern.find fn = some (Extern.SlicesOverlaps.overlaps #[t, t] #[tR]))
    (hx : ev g x = some (.slice (some ⟨a, 0, none⟩) la ca)) (hy : ev g y = some (.slice (some ⟨b, ob, none⟩) lb cb)) [hf : FrameI (pt a (.cells c1.toArray e1 (0, 0)) + pt b (.cells c2.toArray e2 (0, 0))) L R] (hc : c2.length ≠ 0) :
    EV P w0 L g (.call { callee := .value (.func k), args := #[x, y], argTypes := ts }) fun u L' => u = .bool false ∧ L' = L := by
  intro op act w m ho ha hst
  obtain ⟨i, i1, i2, i3, i4⟩ := hi.out
  have hst' := hst
  rw [hf.out] at hst'
  have hne := hst'.sat.left.ne
  have ha1 := hst'.sat.left.left.pt.2
  have hb1 := hst'.sat.left.right.pt.2
  have hz : ∀ w, (Go.sizeOf e).run P w = .ok sz w := fun w => by simp [sizeOf, typeInfo, i1, i2]
  have hsa : w.shape? a = some (e1, c1.toArray.size) := by simp [World.shape?, ha1]
  have hsb : w.shape? b = some (e2, c2.toArray.size) := by simp [World.shape?, hb1]
  have hf1 : w.frozen? ⟨a, 0, none⟩ = false := by simp [World.frozen?, ha1]
  have hf2 : w.frozen? ⟨a, c1.toArray.size, none⟩ = false := by simp [World.frozen?, ha1]
  have hov := Lib.run_overlaps_apart (P := P) w t tR e hu.out sz hz ⟨a, 0, none⟩ ⟨b, ob, none⟩ la ca lb cb hne e1 e2 c1.toArray.size c2.toArray.size hsa hsb (by simpa using hc) hf1 hf2
  refine ⟨.bool false, w, L, .inl ?_, ⟨rfl, rfl⟩, hst⟩
  unfold execOp
  have hfv : act.eval (.func k) = .func (.func k) #[] #[] := rfl
  simp only [ho, resolve, hfv, ha.ev hx, ha.ev hy, List.map_toArray, List.map_cons, List.map_nil, Deferred.ofValue, pure_bind, invoke]
  have := run_callFunc_extern (P := P) hfn hname hb hn he #[.slice (some ⟨a, 0, none⟩) la ca, .slice (some ⟨b, ob, none⟩) lb cb] w
  rw [hov] at this
  simpa using this
end
end Sl
end Go.Proofs.Ytdbmmnpnhpiecaa
