/-
  What came in, opened into rows that may be read. No program in sight.
-/
import Derived.Test.YtdbmmnpnhpiecaaEffs
import Derived.Deep.Slices
import Derived.Deep.Strs
import Derived.Lib.SmallJoins
import Derived.ChangeArms
import Derived.SizedLaws
namespace Go.Proofs.Ytdbmmnpnhpiecaa
open Go Go.RowKit Go.ChangeShapes Go.WideShapes Go.ChangeAt Go.Deep
namespace Sl
set_option linter.unusedVariables false
set_option linter.unusedSimpArgs false
section
variable {H : Type} {enc : TypeId × Value → H} {P : Program} {w0 : World}
theorem weightsAll_mem' {e : TypeId} : ∀ {l : List (DataW H)} {d : DataW H}, d ∈ l → ∀ n ∈ d.weights P e, n ∈ DataW.weightsAll P e l
  | x :: l, d, hd, n, hn => by
    simp only [DataW.weightsAll]
    rcases List.mem_cons.1 hd with rfl | hd
    · exact List.mem_append_left _ hn
    · exact List.mem_append_right _ (weightsAll_mem' hd n hn)
theorem open_rd {t e : TypeId} {sz fuel : Nat} {v : Value} {d : DataW H} {p : List MemPlace} (ht : P.underlying t = some (.slice e)) (hsz : P.cellsOf e = sz) (h0 : 0 < sz)
    (h : DataW.trod enc P w0 0 (fun _ => true) true fuel t [v] = some (d, p)) {B : Nat} (hB : ∀ n ∈ d.weights P t, n ≤ B) :
    ∃ es, RdRow w0 0 sz v es ∧ es.length * P.bytesOf e ≤ B ∧ ∀ (i : Nat) (x : List Value), es[i]? = some x → ∃ D Pl n, DataW.trod enc P w0 0 (fun _ => true) true n e x = some (D, Pl) ∧ ∀ m ∈ D.weights P e, m ≤ B := by
  rcases open_slice ht h with ⟨hc, hx⟩ | ⟨a, len, cap, m, n, D, Pl, hc, hb, hl, hm, hmm, hx, hall⟩
  · simp only [List.cons.injEq, and_true] at hc
    subst hc
    exact ⟨[], ⟨none, 0, rfl, by simp, fun i x hx => by simp at hx⟩, by simp, fun i x hx => by simp at hx⟩
  · simp only [List.cons.injEq, and_true] at hc
    subst hc
    simp only [if_true] at hmm
    subst hmm
    simp only [Prod.mk.injEq] at hx
    obtain ⟨rfl, rfl⟩ := hx
    rw [hsz] at hall
    obtain ⟨F, hF⟩ := choose_lt (α := List Value) hall
    have hat : ∀ (i : Nat) (x : List Value), ((List.range len).map F)[i]? = some x → i < len ∧ x = F i := by
      intro i x hx
      rw [List.getElem?_map] at hx
      by_cases hi : i < len
      · rw [List.getElem?_range hi] at hx
        exact ⟨hi, (Option.some.inj hx).symm⟩
      · rw [List.getElem?_eq_none (by simpa using hi)] at hx; cases hx
    have hlen : ∀ i, i < len → (F i).length = sz := fun i hi => (World.cells?_some (hF i (by omega)).1).2.1
    refine ⟨(List.range len).map F, ⟨some a, m, by simp, ?_, ?_⟩, ?_, ?_⟩
    · intro x hx
      obtain ⟨i, hi, rfl⟩ := List.mem_map.1 hx
      exact hlen i (List.mem_range.1 hi)
    · intro i x hx
      obtain ⟨hi, rfl⟩ := hat i x hx
      have hspot : a.spot = none := by
        obtain ⟨_, h2, h3⟩ := World.cells?_some (hF 0 (by omega)).1
        have h4 := h3 0 h0
        rw [List.getElem?_eq_getElem (show 0 < (F 0).length by omega)] at h4
        simpa [Addr.add] using World.cell?_spot h4
      obtain ⟨b, off, spot⟩ := a
      obtain rfl : spot = none := hspot
      refine ⟨b, off, rfl, fun j u hu => ?_⟩
      obtain ⟨_, h2, h3⟩ := World.cells?_some (hF i (by omega)).1
      have hj : j < sz := by rw [← h2]; exact (List.getElem?_eq_some_iff.1 hu).1
      have h4 := h3 j hj
      rw [add_none, add_none, hu] at h4
      exact reads_base h4
    · have := hB ((((List.range len).map D).length + ((List.range (m - len)).map fun j => D (len + j)).length) * P.bytesOf e) (by simp [DataW.weights, ht])
      refine Nat.le_trans (Nat.mul_le_mul_right _ ?_) this
      simp
    · intro i x hx
      obtain ⟨hi, rfl⟩ := hat i x hx
      refine ⟨D i, Pl i, n, (hF i (by omega)).2, fun q hq => hB q ?_⟩
      simp only [DataW.weights, ht]
      refine List.mem_cons_of_mem _ (List.mem_append_left _ (weightsAll_mem' (List.mem_map.2 ⟨i, List.mem_range.2 hi, rfl⟩) q hq))
end
end Sl
end Go.Proofs.Ytdbmmnpnhpiecaa
