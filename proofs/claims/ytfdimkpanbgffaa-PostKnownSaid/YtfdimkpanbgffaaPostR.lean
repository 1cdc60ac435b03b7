/-
  What a call on a post answers and leaves, as functions: the same of both posts.
-/
import Derived.Test.YtfdimkpanbgffaaPostQ
namespace Go.Proofs.Ytfdimkpanbgffaa
open Go Go.RowKit
namespace Sl
set_option linter.unusedVariables false
set_option linter.unusedSimpArgs false
theorem Spec.mono {P : Program} {w0 : World} {f : FuncId} {args : List Value} {pre : Hp} {post post' : Value → Hp → Prop} (h : Spec P w0 f args pre post) (hp : ∀ r h, post r h → post' r h) : Spec P w0 f args pre post' :=
  fun w fr hw => (h w fr hw).mono fun e w' ⟨v, k, h1, h2, h3⟩ => ⟨v, k, h1, hp _ _ h2, h3⟩
abbrev Cuts := List (Int × Int)
def noItem : Item := ⟨0, 0, [], false⟩
def sendI (its : List Item) (cuts : Cuts) (s d : Int) (data : List Int) : Int × List Item := if ord s d ∈ cuts then (0, its) else if its.length < 256 then (0, its ++ [⟨s, d, data, false⟩]) else (8, its)
def loseI (its : List Item) (i : Int) : Int × List Item := if 0 ≤ i ∧ i < its.length then (0, its.eraseIdx i.toNat) else (6, its)
def doubleI (its : List Item) (i : Int) : Int × List Item := if 0 ≤ i ∧ i < its.length then (if its.length < 256 then (0, its ++ [its.getD i.toNat noItem]) else (8, its)) else (6, its)
def turnI (its : List Item) (i bit : Int) : Int × List Item :=
  if 0 ≤ i ∧ i < its.length then
    (if bit < 0 ∨ bit / 8 ≥ (its.getD i.toNat noItem).data.length then (3, its) else if (its.getD i.toNat noItem).turned = true then (7, its) else (0, its.set i.toNat (turnedAt (its.getD i.toNat noItem) bit)))
  else (6, its)
def cutC (cuts : Cuts) (s d : Int) : Int × Cuts := if s = d then (3, cuts) else if ord s d ∈ cuts then (7, cuts) else if cuts.length < 64 then (0, cuts ++ [ord s d]) else (17, cuts)
def joinC (cuts : Cuts) (s d : Int) : Int × Cuts := if ord s d ∈ cuts then (0, cuts.eraseIdx (cuts.idxOf (ord s d))) else (6, cuts)
theorem idx_nodup {l : Cuts} {k : Nat} {p : Int × Int} (h : l.Nodup) (hk : l[k]? = some p) : l.idxOf p = k := by
  obtain ⟨h1, e1⟩ := List.getElem?_eq_some_iff.1 hk
  have hm : p ∈ l := List.mem_of_getElem? hk
  have h2 : l.idxOf p < l.length := List.idxOf_lt_length_of_mem hm
  have e2 : l[l.idxOf p] = p := List.getElem_idxOf h2
  exact (List.getElem_inj h).1 (e2.trans e1.symm)
theorem getD_it {its : List Item} {k : Nat} {it : Item} (h : its[k]? = some it) : its.getD k noItem = it := by simp [List.getD, h]
section
variable {P : Program} {w0 : World} {f : FuncId} {args : List Value} {pre : Hp} {A : List Item → Cuts → Hp → Prop} {its : List Item} {cuts : Cuts} {hp X : Hp} {i s d bit : Int} {data : List Int}
/-- From a contract by cases to the contract by a function. -/
theorem send_fun (hA : A its cuts hp)
    (h : Spec P w0 f args (hp + X) (fun r h' => if ord s d ∈ cuts then r = .int .i64 0 ∧ hp + X = h' else if its.length < 256 then r = .int .i64 0 ∧ ∃ hp', A (its ++ [⟨s, d, data, false⟩]) cuts hp' ∧ hp' + X = h' else r = .int .i64 8 ∧ hp + X = h')) :
    Spec P w0 f args (hp + X) (fun r h' => r = .int .i64 (sendI its cuts s d data).1 ∧ ∃ hp', A (sendI its cuts s d data).2 cuts hp' ∧ hp' + X = h') := by
  refine h.mono fun r h' hpost => ?_
  unfold sendI
  by_cases h1 : ord s d ∈ cuts
  · rw [if_pos h1] at hpost ⊢
    exact ⟨hpost.1, hp, hA, hpost.2⟩
  · rw [if_neg h1] at hpost ⊢
    by_cases h2 : its.length < 256
    · rw [if_pos h2] at hpost ⊢
      exact hpost
    · rw [if_neg h2] at hpost ⊢
      exact ⟨hpost.1, hp, hA, hpost.2⟩
theorem lose_fun (hA : A its cuts hp) (h : Spec P w0 f args hp (fun r h' => if 0 ≤ i ∧ i < its.length then r = .int .i64 0 ∧ A (its.eraseIdx i.toNat) cuts h' else r = .int .i64 6 ∧ hp = h')) :
    Spec P w0 f args hp (fun r h' => r = .int .i64 (loseI its i).1 ∧ A (loseI its i).2 cuts h') := by
  refine h.mono fun r h' hpost => ?_
  unfold loseI
  by_cases h1 : 0 ≤ i ∧ i < its.length
  · rw [if_pos h1] at hpost ⊢
    exact hpost
  · rw [if_neg h1] at hpost ⊢
    exact ⟨hpost.1, hpost.2 ▸ hA⟩
theorem double_fun (hA : A its cuts hp) (h : Spec P w0 f args hp (fun r h' => if 0 ≤ i ∧ i < its.length then (if its.length < 256 then r = .int .i64 0 ∧ ∃ it, its[i.toNat]? = some it ∧ A (its ++ [it]) cuts h' else r = .int .i64 8 ∧ hp = h') else r = .int .i64 6 ∧ hp = h')) :
    Spec P w0 f args hp (fun r h' => r = .int .i64 (doubleI its i).1 ∧ A (doubleI its i).2 cuts h') := by
  refine h.mono fun r h' hpost => ?_
  unfold doubleI
  by_cases h1 : 0 ≤ i ∧ i < its.length
  · rw [if_pos h1] at hpost ⊢
    by_cases h2 : its.length < 256
    · rw [if_pos h2] at hpost ⊢
      obtain ⟨hr, it, hi, ha⟩ := hpost
      rw [getD_it hi]
      exact ⟨hr, ha⟩
    · rw [if_neg h2] at hpost ⊢
      exact ⟨hpost.1, hpost.2 ▸ hA⟩
  · rw [if_neg h1] at hpost ⊢
    exact ⟨hpost.1, hpost.2 ▸ hA⟩
theorem turn_fun (hA : A its cuts hp) (h : Spec P w0 f args hp (fun r h' => if 0 ≤ i ∧ i < its.length then ∃ it, its[i.toNat]? = some it ∧
      (if bit < 0 ∨ bit / 8 ≥ it.data.length then r = .int .i64 3 ∧ hp = h' else if it.turned = true then r = .int .i64 7 ∧ hp = h' else r = .int .i64 0 ∧ A (its.set i.toNat (turnedAt it bit)) cuts h')
      else r = .int .i64 6 ∧ hp = h')) :
    Spec P w0 f args hp (fun r h' => r = .int .i64 (turnI its i bit).1 ∧ A (turnI its i bit).2 cuts h') := by
  refine h.mono fun r h' hpost => ?_
  unfold turnI
  by_cases h1 : 0 ≤ i ∧ i < its.length
  · rw [if_pos h1] at hpost ⊢
    obtain ⟨it, hi, hpost⟩ := hpost
    rw [getD_it hi]
    by_cases h2 : bit < 0 ∨ bit / 8 ≥ it.data.length
    · rw [if_pos h2] at hpost ⊢
      exact ⟨hpost.1, hpost.2 ▸ hA⟩
    · rw [if_neg h2] at hpost ⊢
      by_cases h3 : it.turned = true
      · rw [if_pos h3] at hpost ⊢
        exact ⟨hpost.1, hpost.2 ▸ hA⟩
      · rw [if_neg h3] at hpost ⊢
        exact hpost
  · rw [if_neg h1] at hpost ⊢
    exact ⟨hpost.1, hpost.2 ▸ hA⟩
theorem cut_fun (hA : A its cuts hp) (h : Spec P w0 f args hp (fun r h' => if s = d then r = .int .i64 3 ∧ hp = h' else if ord s d ∈ cuts then r = .int .i64 7 ∧ hp = h' else if cuts.length < 64 then r = .int .i64 0 ∧ A its (cuts ++ [ord s d]) h' else r = .int .i64 17 ∧ hp = h')) :
    Spec P w0 f args hp (fun r h' => r = .int .i64 (cutC cuts s d).1 ∧ A its (cutC cuts s d).2 h') := by
  refine h.mono fun r h' hpost => ?_
  unfold cutC
  by_cases h1 : s = d
  · rw [if_pos h1] at hpost ⊢
    exact ⟨hpost.1, hpost.2 ▸ hA⟩
  · rw [if_neg h1] at hpost ⊢
    by_cases h2 : ord s d ∈ cuts
    · rw [if_pos h2] at hpost ⊢
      exact ⟨hpost.1, hpost.2 ▸ hA⟩
    · rw [if_neg h2] at hpost ⊢
      by_cases h3 : cuts.length < 64
      · rw [if_pos h3] at hpost ⊢
        exact hpost
      · rw [if_neg h3] at hpost ⊢
        exact ⟨hpost.1, hpost.2 ▸ hA⟩
theorem join_fun (hnd : cuts.Nodup) (hA : A its cuts hp) (h : Spec P w0 f args hp (fun r h' => if ord s d ∈ cuts then r = .int .i64 0 ∧ ∃ k : Nat, cuts[k]? = some (ord s d) ∧ A its (cuts.eraseIdx k) h' else r = .int .i64 6 ∧ hp = h')) :
    Spec P w0 f args hp (fun r h' => r = .int .i64 (joinC cuts s d).1 ∧ A its (joinC cuts s d).2 h') := by
  refine h.mono fun r h' hpost => ?_
  unfold joinC
  by_cases h1 : ord s d ∈ cuts
  · rw [if_pos h1] at hpost ⊢
    obtain ⟨hr, k, hk, ha⟩ := hpost
    rw [idx_nodup hnd hk]
    exact ⟨hr, ha⟩
  · rw [if_neg h1] at hpost ⊢
    exact ⟨hpost.1, hpost.2 ▸ hA⟩
end
/-! ### Each of them is a step -/
theorem step_send (o : OpA) (its : List Item) (cuts : Cuts) (h : o.kind = 0) : Step o (its, cuts) ((sendI its cuts o.x o.y o.data).2, cuts) := by
  unfold sendI
  split
  · exact .same _ _
  · split
    · rename_i h2; exact .send _ _ _ h h2
    · exact .same _ _
theorem step_lose (o : OpA) (its : List Item) (cuts : Cuts) (i : Int) : Step o (its, cuts) ((loseI its i).2, cuts) := by
  unfold loseI
  split
  · exact .take _ _ _ _
  · exact .same _ _
theorem step_double (o : OpA) (its : List Item) (cuts : Cuts) (i : Int) : Step o (its, cuts) ((doubleI its i).2, cuts) := by
  unfold doubleI
  split
  · rename_i h1
    split
    · rename_i h2
      have hk : i.toNat < its.length := by omega
      rw [getD_it (List.getElem?_eq_getElem hk)]
      exact .double _ _ _ _ (List.getElem_mem hk) h2
    · exact .same _ _
  · exact .same _ _
theorem step_turn (o : OpA) (its : List Item) (cuts : Cuts) (i bit : Int) : Step o (its, cuts) ((turnI its i bit).2, cuts) := by
  unfold turnI
  split
  · rename_i h1
    have hk : i.toNat < its.length := by omega
    rw [getD_it (List.getElem?_eq_getElem hk)]
    split
    · exact .same _ _
    · rename_i h2
      split
      · exact .same _ _
      · rename_i h3
        exact .turn _ _ _ _ _ bit (List.getElem?_eq_getElem hk) (by simpa using h3) (by omega) (by omega)
  · exact .same _ _
theorem step_cut (o : OpA) (its : List Item) (cuts : Cuts) (s d : Int) : Step o (its, cuts) (its, (cutC cuts s d).2) := by
  unfold cutC
  split
  · exact .same _ _
  · rename_i h1
    split
    · exact .same _ _
    · rename_i h2
      split
      · rename_i h3; exact .cut _ _ _ _ (ord_lt h1) h2 h3
      · exact .same _ _
theorem step_join (o : OpA) (its : List Item) (cuts : Cuts) (s d : Int) : Step o (its, cuts) (its, (joinC cuts s d).2) := by
  unfold joinC
  split
  · exact .join _ _ _ _
  · exact .same _ _
/-! ### Bytes stay bytes -/
theorem InB.turned {it : Item} (h : InB it.data) {bit : Int} (h0 : 0 ≤ bit) : InB (turnedAt it bit).data := by
  intro n hn
  unfold turnedAt at hn
  rcases List.mem_or_eq_of_mem_set hn with hn | rfl
  · exact h n hn
  · have hr0 : 0 ≤ bit % 8 := Int.emod_nonneg _ (by omega)
    have hr8 := Int.emod_lt_of_pos bit (show (0 : Int) < 8 by omega)
    obtain ⟨r, hr⟩ := Int.eq_ofNat_of_zero_le hr0
    rw [hr]
    have hx : 0 ≤ it.data.getD (bit / 8).toNat 0 ∧ it.data.getD (bit / 8).toNat 0 < 256 := by
      by_cases hl : (bit / 8).toNat < it.data.length
      · rw [show it.data.getD (bit / 8).toNat 0 = it.data[(bit / 8).toNat] by simp [List.getD, hl]]
        exact h _ (List.getElem_mem hl)
      · rw [show it.data.getD (bit / 8).toNat 0 = 0 by simp [List.getD, List.getElem?_eq_none (show it.data.length ≤ (bit / 8).toNat by omega)]]
        decide
    exact (flip_in hx (by omega)).2
theorem Step.inB {o : OpA} {s t : List Item × List (Int × Int)} (h : Step o s t) (ho : InB o.data) (hg : ∀ it ∈ s.1, InB it.data) : ∀ it ∈ t.1, InB it.data := by
  cases h with
  | same => exact hg
  | send its cuts hk hl =>
    intro it hi
    rcases List.mem_append.1 hi with hi | hi
    · exact hg it hi
    · rw [List.mem_singleton] at hi; subst hi; exact ho
  | take its cuts k => exact fun it hi => hg it (List.mem_of_mem_eraseIdx hi)
  | double its cuts it hi hl =>
    intro it' hi'
    rcases List.mem_append.1 hi' with hi' | hi'
    · exact hg it' hi'
    · rw [List.mem_singleton] at hi'; subst hi'; exact hg _ hi
  | turn its cuts k it bit hi _ hb _ =>
    intro it' hi'
    rcases List.mem_or_eq_of_mem_set hi' with hi' | rfl
    · exact hg it' hi'
    · exact InB.turned (hg _ (List.mem_of_getElem? hi)) hb
  | cut => exact hg
  | join => exact hg
end Sl
end Go.Proofs.Ytfdimkpanbgffaa
