/-
  What Take answers: the plain law of who is wounded. No program in sight.
-/
import Derived.Test.YtdbmmnpnhpiecaaLkG
namespace Go.Proofs.Ytdbmmnpnhpiecaa
open Go Go.RowKit
namespace Sl
set_option linter.unusedVariables false
set_option linter.unusedSimpArgs false
theorem mem_sortI (zs : List Int) (x : Int) : x ∈ sortI zs ↔ x ∈ zs := by unfold sortI; exact List.mem_mergeSort
theorem sorted_sortI (zs : List Int) : (sortI zs).Pairwise (· ≤ ·) := by
  have h := List.pairwise_mergeSort (le := fun x y : Int => decide (x ≤ y)) (fun a b c h1 h2 => by simp at *; omega) (fun a b => by simp; omega) zs
  unfold sortI
  exact h.imp (fun h => by simpa using h)
theorem mem_upTo (d : Array Int) : ∀ (m : Nat) (x : Int), x ∈ Lib.compactUpTo d m ↔ ∃ j, j < m ∧ d[j]! = x
  | 0, x => by simp [Lib.compactUpTo]
  | m + 1, x => by
    rw [Lib.compactUpTo_succ, List.mem_append, mem_upTo d m x]
    constructor
    · rintro (⟨j, hj, e⟩ | h)
      · exact ⟨j, by omega, e⟩
      · split at h
        · simp only [List.mem_singleton] at h; exact ⟨m, by omega, h.symm⟩
        · cases h
    · rintro ⟨j, hj, e⟩
      by_cases hjm : j < m
      · exact .inl ⟨j, hjm, e⟩
      · obtain rfl : j = m := by omega
        cases hk : Lib.keeps d j with
        | true => right; simp [e]
        | false =>
          left
          simp only [Lib.keeps, decide_eq_false_iff_not, not_or, Decidable.not_not] at hk
          exact ⟨j - 1, by omega, by rw [← hk.2]; exact e⟩
theorem sorted_at {zs : List Int} (h : zs.Pairwise (· ≤ ·)) {i j : Nat} (hij : i ≤ j) (hj : j < zs.length) : zs.toArray[i]! ≤ zs.toArray[j]! := by
  have e : ∀ k, k < zs.length → zs.toArray[k]! = zs.getD k 0 := fun k hk => by simp [List.getD, hk]
  rw [e i (by omega), e j hj, List.getD_eq_getElem?_getD, List.getD_eq_getElem?_getD, List.getElem?_eq_getElem hj, List.getElem?_eq_getElem (by omega : i < zs.length)]
  simp only [Option.getD_some]
  rcases Nat.lt_or_ge i j with h1 | h1
  · exact List.pairwise_iff_getElem.1 h i j (by omega) hj h1
  · obtain rfl : i = j := by omega
    exact Int.le_refl _
theorem upTo_lt {zs : List Int} (h : zs.Pairwise (· ≤ ·)) : ∀ m, m ≤ zs.length → (Lib.compactUpTo zs.toArray m).Pairwise (· < ·)
  | 0, _ => by simp [Lib.compactUpTo]
  | m + 1, hm => by
    rw [Lib.compactUpTo_succ]
    refine List.pairwise_append.2 ⟨upTo_lt h m (by omega), by split <;> simp, fun x hx y hy => ?_⟩
    split at hy
    · rename_i hk
      simp only [List.mem_singleton] at hy
      subst hy
      obtain ⟨j, hj, rfl⟩ := (mem_upTo _ _ _).1 hx
      simp only [Lib.keeps, decide_eq_true_eq] at hk
      rcases hk with hk | hk
      · omega
      · have h1 := sorted_at h (i := j) (j := m - 1) (by omega) (by omega)
        have h2 := sorted_at h (i := m - 1) (j := m) (by omega) (by omega)
        omega
    · cases hy
theorem mem_compI (zs : List Int) (x : Int) : x ∈ compI zs ↔ x ∈ zs := by
  unfold compI Lib.compact
  rw [mem_upTo]
  constructor
  · rintro ⟨j, hj, rfl⟩
    rw [show zs.toArray[j]! = zs[j] by simp [hj]]
    exact List.getElem_mem hj
  · intro h
    obtain ⟨j, hj, rfl⟩ := List.getElem_of_mem h
    exact ⟨j, hj, by simp [hj]⟩
theorem lt_compI {zs : List Int} (h : zs.Pairwise (· ≤ ·)) : (compI zs).Pairwise (· < ·) := upTo_lt h _ (Nat.le_refl _)
theorem mem_woundL {l : List Lk} {k : Lk} {x : Int} : x ∈ woundL l k ↔ ∃ y ∈ l, clashL y k = true ∧ y.txn = x := by
  unfold woundL
  rw [mem_compI, mem_sortI]
  unfold woundsL
  simp only [List.mem_map, List.mem_filter, and_assoc]
theorem not_busy {l : List Lk} {k : Lk} {fixed : List Int} (h : ¬ busyL l k fixed = true) {y : Lk} (hy : y ∈ l) (hc : clashL y k = true) : y.txn ∉ fixed ∧ elderL y k = false := by
  have : (clashL y k && (decide (y.txn ∈ fixed) || elderL y k)) = false := by
    have h' : busyL l k fixed = false := by simpa using h
    unfold busyL at h'
    have := List.any_eq_false.1 h' y hy
    simpa only [Bool.not_eq_true] using this
  rw [hc] at this
  simpa using this
theorem clash_txn {y k : Lk} (hc : clashL y k = true) : y.txn ≠ k.txn := by
  simp only [clashL, Bool.and_eq_true, decide_eq_true_eq] at hc
  exact hc.1.2
theorem hasP_self (x : Lk) : hasP x.txn x.block x.write x = true := by simp [hasP]
theorem hasL_of_mem {l : List Lk} {x : Lk} (h : x ∈ l) : hasL l x.txn x.block x.write = true := List.any_eq_true.2 ⟨x, h, hasP_self x⟩
theorem Laid.mem {l r : List Lk} {k : Lk} (h : Laid l k r) {x : Lk} (hx : x ∈ r) : x.txn = k.txn ∨ ∃ y ∈ l, y.txn = x.txn := by
  rcases h with ⟨n, hn, h1, h2, rfl⟩ | ⟨_, ⟨n, hn, h1, h2, rfl⟩ | ⟨_, rfl⟩⟩
  · rcases List.mem_or_eq_of_mem_set hx with hx | rfl
    · exact .inr ⟨x, hx, rfl⟩
    · exact .inr ⟨l[n], List.getElem_mem hn, rfl⟩
  · rcases List.mem_append.1 hx with hx | hx
    · exact .inr ⟨x, List.mem_of_mem_take hx, rfl⟩
    · rcases List.mem_cons.1 hx with rfl | hx
      · exact .inl rfl
      · exact .inr ⟨x, List.mem_of_mem_drop hx, rfl⟩
  · rcases List.mem_append.1 hx with hx | hx
    · exact .inr ⟨x, hx, rfl⟩
    · rw [List.mem_singleton] at hx; subst hx; exact .inl rfl
theorem Laid.has {l r : List Lk} {k : Lk} (h : Laid l k r) {x : Lk} (hx : x ∈ l) : hasL r x.txn x.block x.write = true := by
  rcases h with ⟨n, hn, h1, h2, rfl⟩ | ⟨_, ⟨n, hn, h1, h2, rfl⟩ | ⟨_, rfl⟩⟩
  · obtain ⟨m, hm, rfl⟩ := List.getElem_of_mem hx
    by_cases e : m = n
    · subst e
      refine List.any_eq_true.2 ⟨{ l[m] with write := true }, List.mem_iff_getElem.2 ⟨m, by simpa using hm, by simp⟩, by simp [hasP]⟩
    · refine hasL_of_mem (List.mem_iff_getElem.2 ⟨m, by simpa using hm, by rw [List.getElem_set_ne (Ne.symm e)]⟩)
  · refine hasL_of_mem ?_
    rw [← List.take_append_drop n l] at hx
    rcases List.mem_append.1 hx with hx | hx
    · exact List.mem_append_left _ hx
    · exact List.mem_append_right _ (List.mem_cons_of_mem _ hx)
  · exact hasL_of_mem (List.mem_append_left _ hx)
theorem Laid.length {l r : List Lk} {k : Lk} (h : Laid l k r) : l.length ≤ r.length ∧ r.length ≤ l.length + 1 := by
  rcases h with ⟨n, hn, h1, h2, rfl⟩ | ⟨_, ⟨n, hn, h1, h2, rfl⟩ | ⟨_, rfl⟩⟩
  · simp
  · simp; omega
  · simp
theorem withoutL_nil (l : List Lk) : withoutL l [] = l := by simp [withoutL]
theorem mem_withoutL {l : List Lk} {ts : List Int} {x : Lk} : x ∈ withoutL l ts ↔ x ∈ l ∧ x.txn ∉ ts := by simp [withoutL]
/-- Where Take says OK. -/
theorem take_ok {l a : List Lk} {k : Lk} {fixed w : List Int} {e : Int} (h : TakeP l k fixed a w e) (he : e = 0) :
    (∀ x ∈ w, x ∉ fixed ∧ x ≠ k.txn) ∧ w.Pairwise (· < ·) ∧ (∀ x ∈ l, x.txn ∉ w → hasL a x.txn x.block x.write = true) ∧ (∀ x ∈ a, x.txn ∉ w) ∧ (withoutL l w).length ≤ a.length ∧ a.length ≤ (withoutL l w).length + 1 := by
  unfold TakeP at h
  by_cases h1 : hasL l k.txn k.block k.write = true
  · rw [if_pos h1] at h
    obtain ⟨rfl, rfl, _⟩ := h
    exact ⟨by simp, by simp, fun x hx _ => hasL_of_mem hx, by simp, by rw [withoutL_nil]; exact Nat.le_refl _, by rw [withoutL_nil]; omega⟩
  · rw [if_neg h1] at h
    by_cases h2 : busyL l k fixed = true
    · rw [if_pos h2] at h; exact absurd (h.2.2.symm.trans he) (by decide)
    · rw [if_neg h2] at h
      by_cases h3 : 64 ≤ (leftL l k).length ∧ hasL (leftL l k) k.txn k.block false = false
      · rw [if_pos h3] at h; exact absurd (h.2.2.symm.trans he) (by decide)
      · rw [if_neg h3] at h
        obtain ⟨hl, rfl, _⟩ := h
        have hk : k.txn ∉ woundL l k := fun hm => by
          obtain ⟨y, hy, hc, e⟩ := mem_woundL.1 hm
          exact clash_txn hc e
        refine ⟨fun x hx => ?_, lt_compI (sorted_sortI _), fun x hx hn => hl.has (mem_withoutL.2 ⟨hx, hn⟩), fun x hx => ?_, hl.length.1, hl.length.2⟩
        · obtain ⟨y, hy, hc, rfl⟩ := mem_woundL.1 hx
          exact ⟨(not_busy h2 hy hc).1, clash_txn hc⟩
        · rcases hl.mem hx with e | ⟨y, hy, e⟩
          · rw [e]; exact hk
          · rw [← e]; exact (mem_withoutL.1 hy).2
/-- Where it says anything else. -/
theorem take_no {l a : List Lk} {k : Lk} {fixed w : List Int} {e : Int} (h : TakeP l k fixed a w e) (he : e ≠ 0) : a = l ∧ w = [] := by
  unfold TakeP at h
  split at h
  · exact ⟨h.1, h.2.1⟩
  · split at h
    · exact ⟨h.1, h.2.1⟩
    · split at h
      · exact ⟨h.1, h.2.1⟩
      · exact absurd h.2.2 he
theorem take_len {l a : List Lk} {k : Lk} {fixed w : List Int} {e : Int} (h : TakeP l k fixed a w e) : a.length ≤ l.length + 1 ∧ w.length ≤ l.length := by
  unfold TakeP at h
  split at h
  · obtain ⟨rfl, rfl, _⟩ := h; simp
  · split at h
    · obtain ⟨rfl, rfl, _⟩ := h; simp
    · split at h
      · obtain ⟨rfl, rfl, _⟩ := h; simp
      · obtain ⟨hl, rfl, _⟩ := h
        have := hl.length
        have := leftL_le l k
        exact ⟨by omega, woundL_le l k⟩
end Sl
end Go.Proofs.Ytdbmmnpnhpiecaa
