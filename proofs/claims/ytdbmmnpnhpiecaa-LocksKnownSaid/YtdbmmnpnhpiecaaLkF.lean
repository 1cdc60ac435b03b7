/-
  slices.Sort and slices.Compact of numbers, out of the library's contracts.
-/
import Derived.Test.YtdbmmnpnhpiecaaLkD
import Derived.Test.YtdbmmnpnhpiecaaShelf
namespace Go.Proofs.Ytdbmmnpnhpiecaa
open Go Go.RowKit
namespace Sl
set_option linter.unusedVariables false
set_option linter.unusedSimpArgs false
theorem St.grow {w0 w : World} {L : Hp} (h : St w0 w L) (os : Array Obj) : St w0 (Sort.grow w os) L :=
  ⟨h.below.trans ⟨rfl, rfl, rfl, by simp [Sort.grow], fun k hk => by
    have : k < w.heap.size := Nat.lt_of_lt_of_le hk h.below.size
    simp only [Sort.grow]
    rw [Array.getElem?_append_left this]⟩, h.sat.mono fun k _ hk => by simp only [Sort.grow]; rw [Array.getElem?_append_left hk]⟩
theorem flat1 (l : List Int) : (enc1 l).flatten = l.map (Value.int .i64) := by
  induction l with
  | nil => rfl
  | cons x l ih => simp only [enc1, List.map_cons, List.flatten_cons] at ih ⊢; rw [ih]; rfl
theorem putCells_row (d : List Int) (old spare : List Value) (h : old.length = d.length) :
    Sort.putCells (Value.int .i64) 0 d.toArray (old ++ spare).toArray = (d.map (Value.int .i64) ++ spare).toArray := by
  apply Array.ext'
  apply List.ext_getElem?
  intro k
  simp only [Sort.putCells, Array.toList_mapIdx, List.getElem?_mapIdx, List.size_toArray, Nat.zero_le, Nat.zero_add, true_and, Nat.sub_zero]
  by_cases hk : k < d.length
  · rw [List.getElem?_append_left (by omega), List.getElem?_append_left (by simpa using hk), List.getElem?_eq_getElem (by omega)]
    simp [hk]
  · rw [List.getElem?_append_right (by omega), List.getElem?_append_right (by simpa using hk), List.length_map, h]
    cases spare[k - d.length]? <;> simp [hk]
theorem St.row {w0 w : World} {b : Nat} {old spare : List Value} {e : TypeId} {R : Hp} (h : St w0 w (pt b (.cells (old ++ spare).toArray e (0, 0)) + R)) (n : Nat) (d : List Int) (hd : old.length = d.length) :
    St w0 (Sort.putRow (Value.int .i64) (Sort.ahead w n) b 0 d.toArray) (pt b (.cells (d.map (Value.int .i64) ++ spare).toArray e (0, 0)) + R) := by
  have hh := h.sat.left.pt.2
  refine h.set (o' := .cells (d.map (Value.int .i64) ++ spare).toArray e (0, 0)) ?_ (fun k hk => ?_) ?_ rfl rfl rfl
  · show ((Sort.ahead w n).heap.modify b _)[b]? = _
    rw [Array.getElem?_modify, if_pos rfl, show (Sort.ahead w n).heap = w.heap from rfl, hh]
    simp only [Option.map_some, Sort.onCells]
    rw [putCells_row d old spare hd]
  · show ((Sort.ahead w n).heap.modify b _)[k]? = _
    rw [Array.getElem?_modify, if_neg (Ne.symm hk)]; rfl
  · show w.heap.size ≤ ((Sort.ahead w n).heap.modify b _).size
    rw [Array.size_modify]; exact Nat.le_refl _
theorem holds_row {w0 w : World} {b : Nat} {zs : List Int} {spare : List Value} {e : TypeId} {R : Hp} (h : St w0 w (pt b (.cells ((enc1 zs).flatten ++ spare).toArray e (0, 0)) + R)) : Sort.Holds (Value.int .i64) w b 0 zs.toArray := by
  have hh := h.sat.left.pt.2
  intro j hj
  have hj' : j < zs.length := by simpa using hj
  refine ⟨?_, by simp [World.frozen?, hh]⟩
  rw [flat1] at hh
  simp only [World.cell?, hh, Nat.zero_add]
  rw [List.getElem?_toArray, List.getElem?_append_left (by simpa using hj')]
  simp [hj']
def sortI (zs : List Int) : List Int := zs.mergeSort fun x y => decide (x ≤ y)
theorem sortI_length (zs : List Int) : (sortI zs).length = zs.length := by simp [sortI]
theorem sort_spec (w0 : World) (v : Value) (zs : List Int) (h : Hp) (hr : isRow 3 1 (enc1 zs) v h) (hl : zs.length ≤ 1000000000) :
    Spec Try.prog w0 34 [v] h (fun r h' => isRow 3 1 (enc1 (sortI zs)) v h') := by
  intro w fr hst
  by_cases hz : zs = []
  · subst hz
    obtain ⟨a, c, rfl⟩ := hr.shape
    refine (Try.slices_Sort_int_none a c w).mono ?_
    rintro e w' ⟨rfl, rfl⟩
    exact ⟨_, h, rfl, by show isRow _ _ (enc1 (sortI [])) _ _; rw [show sortI [] = [] by simp [sortI]]; exact hr, hst⟩
  · obtain ⟨b, cap, spare, rfl, rfl, hes, hcap, hmax, hsp⟩ := hr.nonempty (by intro e; rw [← List.length_eq_zero_iff, enc1_length] at e; exact hz (List.eq_nil_of_length_eq_zero e))
    rw [enc1_length] at *
    have hh := hst.sat.left.pt.2
    refine (Try.slices_Sort_int b 0 cap zs w (holds_row hst) (Array.getElem?_eq_some_iff.1 hh).1 (by omega)).mono ?_
    rintro e w' ⟨rfl, n, os, rfl⟩
    have hst2 := (hst.row n (sortI zs) (by rw [flat1, List.length_map, sortI_length])).grow os
    rw [← flat1] at hst2
    refine ⟨_, _, rfl, ?_, hst2⟩
    have := isRow_block (E := 3) (b := b) (cap := cap) (spare := spare) (enc1_len1 (sortI zs)) (by rw [enc1_length, sortI_length]; exact hcap) hmax (by rw [enc1_length, sortI_length]; exact hsp)
    rwa [enc1_length, sortI_length] at this
def compI (zs : List Int) : List Int := Lib.compact zs
theorem compI_le (zs : List Int) : (compI zs).length ≤ zs.length := by
  unfold compI Lib.compact Lib.compactUpTo
  rw [List.length_map]
  exact Nat.le_trans (List.length_filter_le _ _) (by simp)
theorem compact_spec (w0 : World) (v : Value) (zs : List Int) (h : Hp) (hr : isRow 3 1 (enc1 zs) v h) (hl : zs.length ≤ 1000000000) :
    Spec Try.prog w0 35 [v] h (fun r h' => isRow 3 1 (enc1 (compI zs)) r h') := by
  intro w fr hst
  by_cases hz : zs = []
  · subst hz
    obtain ⟨a, c, rfl⟩ := hr.shape
    refine (Try.slices_Compact_int_empty a c w).mono ?_
    rintro e w' ⟨rfl, rfl⟩
    exact ⟨_, h, rfl, hr, hst⟩
  · obtain ⟨b, cap, spare, rfl, rfl, hes, hcap, hmax, hsp⟩ := hr.nonempty (by intro e; rw [← List.length_eq_zero_iff, enc1_length] at e; exact hz (List.eq_nil_of_length_eq_zero e))
    rw [enc1_length] at *
    refine (Try.slices_Compact_int b 0 cap zs w (holds_row hst) (by omega) hcap).mono ?_
    rintro e w' ⟨rfl, q, rfl⟩
    have hle := compI_le zs
    have hst2 := hst.row q (compI zs ++ List.replicate (zs.length - (compI zs).length) 0) (by rw [flat1, List.length_map, List.length_append, List.length_replicate]; omega)
    rw [List.map_append, ← flat1, List.append_assoc] at hst2
    refine ⟨_, _, rfl, ?_, hst2⟩
    have := isRow_block (E := 3) (b := b) (cap := cap) (spare := (List.replicate (zs.length - (compI zs).length) (0 : Int)).map (Value.int .i64) ++ spare) (enc1_len1 (compI zs)) (by rw [enc1_length]; omega) hmax
      (by rw [enc1_length, List.length_append, List.length_map, List.length_replicate, hsp]; omega)
    rwa [enc1_length] at this
end Sl
end Go.Proofs.Ytdbmmnpnhpiecaa
