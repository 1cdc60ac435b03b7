/-
  What Take and Free keep: locks are in order, none clash, there are not too many. No program in sight.
-/
import Derived.Test.YtdbmmnpnhpiecaaLkL
namespace Go.Proofs.Ytdbmmnpnhpiecaa
open Go Go.RowKit
namespace Sl
set_option linter.unusedVariables false
set_option linter.unusedSimpArgs false
def ltL (x y : Lk) : Prop := x.block < y.block ∨ (x.block = y.block ∧ x.txn < y.txn)
structure Safe (l : List Lk) : Prop where
  sorted : l.Pairwise ltL
  calm : ∀ x ∈ l, ∀ y ∈ l, clashL x y = false
  few : l.length ≤ 64
theorem safe_nil : Safe [] := ⟨by simp, by simp, by simp⟩
theorem Safe.without {l : List Lk} (h : Safe l) (ts : List Int) : Safe (withoutL l ts) :=
  ⟨h.sorted.sublist (List.filter_sublist), fun x hx y hy => h.calm x (List.mem_filter.1 hx).1 y (List.mem_filter.1 hy).1, Nat.le_trans (List.length_filter_le _ _) h.few⟩
theorem ltL_trans {x y z : Lk} (h1 : ltL x y) (h2 : ltL y z) : ltL x z := by unfold ltL at *; omega
theorem ltL_of_not {k x : Lk} (h1 : behindL k x = false) (h2 : sameSpot k x = false) : ltL x k := by
  simp only [behindL, sameSpot, decide_eq_false_iff_not] at h1 h2
  unfold ltL; omega
theorem ltL_of {k x : Lk} (h1 : behindL k x = true) : ltL k x := by
  simp only [behindL, decide_eq_true_eq] at h1
  unfold ltL; omega
theorem Laid.sorted {l r : List Lk} {k : Lk} (h : Laid l k r) (hs : l.Pairwise ltL) : r.Pairwise ltL := by
  rcases h with ⟨n, hn, h1, h2, rfl⟩ | ⟨h0, ⟨n, hn, h1, h2, rfl⟩ | ⟨h1, rfl⟩⟩
  · rw [List.pairwise_iff_getElem] at hs ⊢
    have key : ∀ (i : Nat) (hi : i < (l.set n { l[n] with write := true }).length), (l.set n { l[n] with write := true })[i].block = (l[i]'(by simpa using hi)).block ∧ (l.set n { l[n] with write := true })[i].txn = (l[i]'(by simpa using hi)).txn := by
      intro i hi
      by_cases e : n = i
      · subst e; simp
      · rw [List.getElem_set_ne e]; exact ⟨rfl, rfl⟩
    intro i j hi hj hij
    have := hs i j (by simpa using hi) (by simpa using hj) hij
    unfold ltL at this ⊢
    rw [(key i hi).1, (key i hi).2, (key j hj).1, (key j hj).2]
    exact this
  · have hd : l = l.take n ++ l.drop n := (List.take_append_drop n l).symm
    have hs' := hs
    rw [hd, List.pairwise_append] at hs'
    obtain ⟨s1, s2, s3⟩ := hs'
    refine List.pairwise_append.2 ⟨s1, List.pairwise_cons.2 ⟨fun y hy => ?_, s2⟩, fun x hx y hy => ?_⟩
    · rw [List.drop_eq_getElem_cons hn] at hy s2
      rcases List.mem_cons.1 hy with rfl | hy
      · exact ltL_of h1
      · exact ltL_trans (ltL_of h1) ((List.pairwise_cons.1 s2).1 y hy)
    · rcases List.mem_cons.1 hy with rfl | hy
      · exact ltL_of_not (h2 x hx) (h0 x (List.mem_of_mem_take hx))
      · exact s3 x hx y hy
  · refine List.pairwise_append.2 ⟨hs, by simp, fun x hx y hy => ?_⟩
    rw [List.mem_singleton] at hy; subst hy
    exact ltL_of_not (h1 x hx) (h0 x hx)
theorem clash_comm (x y : Lk) : clashL x y = clashL y x := by
  unfold clashL
  rw [show decide (x.block = y.block) = decide (y.block = x.block) from decide_eq_decide.2 eq_comm, show decide (x.txn ≠ y.txn) = decide (y.txn ≠ x.txn) from decide_eq_decide.2 ne_comm, Bool.or_comm]
theorem clash_self (x : Lk) : clashL x x = false := by simp [clashL]
/-- k clashes with none of the locks; and if one of its own stands on its spot, k writes and that one does not. -/
theorem Laid.calm {l r : List Lk} {k : Lk} (h : Laid l k r) (hc : ∀ x ∈ l, ∀ y ∈ l, clashL x y = false) (hk : ∀ x ∈ l, clashL x k = false) (hw : ∀ x ∈ l, sameSpot k x = true → k.write = true) : ∀ x ∈ r, ∀ y ∈ r, clashL x y = false := by
  have add : ∀ z : Lk, (∀ x ∈ l, clashL x z = false) → ∀ r' : List Lk, (∀ x ∈ r', x ∈ l ∨ x = z) → ∀ x ∈ r', ∀ y ∈ r', clashL x y = false := by
    intro z hz r' hr x hx y hy
    rcases hr x hx with hx | rfl <;> rcases hr y hy with hy | rfl
    · exact hc x hx y hy
    · exact hz x hx
    · rw [clash_comm]; exact hz y hy
    · exact clash_self _
  rcases h with ⟨n, hn, h1, h2, rfl⟩ | ⟨h0, ⟨n, hn, h1, h2, rfl⟩ | ⟨h1, rfl⟩⟩
  · refine add { l[n] with write := true } (fun x hx => ?_) _ (fun x hx => List.mem_or_eq_of_mem_set hx)
    have hkw := hw _ (List.getElem_mem hn) h1
    have := hk x hx
    simp only [sameSpot, decide_eq_true_eq] at h1
    simp only [clashL, h1.1, h1.2, hkw] at this ⊢
    exact this
  · refine add k hk _ (fun x hx => ?_)
    rcases List.mem_append.1 hx with hx | hx
    · exact .inl (List.mem_of_mem_take hx)
    · rcases List.mem_cons.1 hx with rfl | hx
      · exact .inr rfl
      · exact .inl (List.mem_of_mem_drop hx)
  · refine add k hk _ (fun x hx => ?_)
    rcases List.mem_append.1 hx with hx | hx
    · exact .inl hx
    · exact .inr (List.mem_singleton.1 hx)
theorem hasP_spot {k x : Lk} : hasP k.txn k.block k.write x = (sameSpot k x && (x.write || !k.write)) := rfl
theorem take_safe {l a : List Lk} {k : Lk} {fixed w : List Int} {e : Int} (h : TakeP l k fixed a w e) (hs : Safe l) : Safe a := by
  by_cases he : e = 0
  · unfold TakeP at h
    by_cases h1 : hasL l k.txn k.block k.write = true
    · rw [if_pos h1] at h; rw [h.1]; exact hs
    · rw [if_neg h1] at h
      by_cases h2 : busyL l k fixed = true
      · rw [if_pos h2] at h; rw [h.1]; exact hs
      · rw [if_neg h2] at h
        by_cases h3 : 64 ≤ (leftL l k).length ∧ hasL (leftL l k) k.txn k.block false = false
        · rw [if_pos h3] at h; rw [h.1]; exact hs
        · rw [if_neg h3] at h
          obtain ⟨hl, _, _⟩ := h
          have hsl : Safe (leftL l k) := hs.without _
          refine ⟨hl.sorted hsl.sorted, hl.calm hsl.calm (fun x hx => ?_) (fun x hx hsp => ?_), ?_⟩
          · obtain ⟨hx1, hx2⟩ := mem_withoutL.1 hx
            cases hc : clashL x k with
            | false => rfl
            | true => exact absurd (mem_woundL.2 ⟨x, hx1, hc, rfl⟩) hx2
          · obtain ⟨hx1, _⟩ := mem_withoutL.1 hx
            have h1' : hasL l k.txn k.block k.write = false := by simpa using h1
            have := List.any_eq_false.1 h1' x hx1
            rw [hasP_spot, hsp] at this
            cases hk : k.write with
            | true => rfl
            | false => rw [hk] at this; simp at this
          · have hf := hsl.few
            have hln := hl.length
            by_cases h5 : (leftL l k).length < 64
            · omega
            · have h6 : hasL (leftL l k) k.txn k.block false = true := by
                cases hh : hasL (leftL l k) k.txn k.block false with
                | true => rfl
                | false => exact absurd ⟨by omega, hh⟩ h3
              obtain ⟨x, hx, hxp⟩ := List.any_eq_true.1 h6
              have hxs : sameSpot k x = true := by simp only [hasP, Bool.not_false, Bool.or_true, Bool.and_true] at hxp; exact hxp
              rcases hl with ⟨n, hn, g1, g2, rfl⟩ | ⟨g0, _⟩
              · simpa using hf
              · rw [g0 x hx] at hxs; cases hxs
  · rw [(take_no h he).1]; exact hs
/-- Who has taken one has it; who was refused has it not. -/
theorem take_has {l a : List Lk} {k : Lk} {fixed w : List Int} {e : Int} (h : TakeP l k fixed a w e) : hasL a k.txn k.block k.write = decide (e = 0) := by
  unfold TakeP at h
  by_cases h1 : hasL l k.txn k.block k.write = true
  · rw [if_pos h1] at h; obtain ⟨rfl, _, rfl⟩ := h; rw [h1]; rfl
  · have h1' : hasL l k.txn k.block k.write = false := by simpa using h1
    rw [if_neg h1] at h
    by_cases h2 : busyL l k fixed = true
    · rw [if_pos h2] at h; obtain ⟨rfl, _, rfl⟩ := h; rw [h1']; rfl
    · rw [if_neg h2] at h
      by_cases h3 : 64 ≤ (leftL l k).length ∧ hasL (leftL l k) k.txn k.block false = false
      · rw [if_pos h3] at h; obtain ⟨rfl, _, rfl⟩ := h; rw [h1']; rfl
      · rw [if_neg h3] at h
        obtain ⟨hl, _, rfl⟩ := h
        rw [show decide ((0 : Int) = 0) = true from rfl]
        rcases hl with ⟨n, hn, g1, g2, rfl⟩ | ⟨g0, ⟨n, hn, g1, g2, rfl⟩ | ⟨g1, rfl⟩⟩
        · simp only [sameSpot, decide_eq_true_eq] at g1
          exact List.any_eq_true.2 ⟨{ (leftL l k)[n] with write := true }, List.mem_iff_getElem.2 ⟨n, by simpa using hn, by simp⟩, by simp [hasP, g1]⟩
        · exact hasL_of_mem (by simp)
        · exact hasL_of_mem (by simp)
theorem free_has (l : List Lk) (t b : Int) : hasL (withoutL l [t]) t b false = false := by
  refine List.any_eq_false.2 fun x hx => ?_
  obtain ⟨_, h⟩ := mem_withoutL.1 hx
  simp only [List.mem_singleton] at h
  simp [hasP, h]
end Sl
end Go.Proofs.Ytdbmmnpnhpiecaa
