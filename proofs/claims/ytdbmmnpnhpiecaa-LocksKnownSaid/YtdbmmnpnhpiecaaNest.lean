/-
  Lists in memory whose elements own memory themselves: one relation for every element type. No program in sight.
-/
import Derived.Test.YtdbmmnpnhpiecaaEff2
namespace Go.Proofs.Ytdbmmnpnhpiecaa
open Go Go.RowKit
namespace Sl
set_option linter.unusedVariables false
set_option linter.unusedSimpArgs false
section
variable {α : Type} {R : α → List Value → Hp → Prop}
/-- Element by element: what it is, its cells, what it owns. -/
def Nest (R : α → List Value → Hp → Prop) : List α → List (List Value) → List Hp → Prop
  | [], [], [] => True
  | x :: xs, e :: es, h :: hs => R x e h ∧ Nest R xs es hs
  | _, _, _ => False
def nestAt (R : α → List Value → Hp → Prop) (E size : Nat) (xs : List α) (v : Value) (h : Hp) : Prop := ∃ es hs h0, isRow E size es v h0 ∧ Nest R xs es hs ∧ h = h0 + hsum hs
theorem nestAt_intro {E size : Nat} {xs : List α} {es : List (List Value)} {hs : List Hp} {v : Value} {h0 : Hp} (h1 : isRow E size es v h0) (h2 : Nest R xs es hs) : nestAt R E size xs v (h0 + hsum hs) := ⟨es, hs, h0, h1, h2, rfl⟩
theorem Nest.length : ∀ {xs : List α} {es : List (List Value)} {hs : List Hp}, Nest R xs es hs → es.length = xs.length ∧ hs.length = xs.length
  | [], [], [], _ => ⟨rfl, rfl⟩
  | x :: xs, e :: es, h :: hs, hi => by
    have := Nest.length hi.2
    simp [this.1, this.2]
  | [], _ :: _, _, hi => by cases hi
  | [], [], _ :: _, hi => by cases hi
  | _ :: _, [], _, hi => by cases hi
  | _ :: _, _ :: _, [], hi => by cases hi
theorem Nest.get : ∀ {xs : List α} {es : List (List Value)} {hs : List Hp}, Nest R xs es hs → ∀ {i : Nat} {x : α}, xs[i]? = some x → ∃ e h, es[i]? = some e ∧ hs[i]? = some h ∧ R x e h
  | x :: xs, e :: es, h :: hs, hi, 0, x', hx => by
    simp only [List.getElem?_cons_zero, Option.some.injEq] at hx; subst hx
    exact ⟨e, h, rfl, rfl, hi.1⟩
  | x :: xs, e :: es, h :: hs, hi, i + 1, x', hx => by
    simp only [List.getElem?_cons_succ] at hx ⊢
    exact Nest.get hi.2 hx
  | [], _, _, _, i, x', hx => by simp at hx
  | _ :: _, [], _, hi, _, _, _ => by cases hi
  | _ :: _, _ :: _, [], hi, _, _, _ => by cases hi
theorem Nest.append : ∀ {xs : List α} {es : List (List Value)} {hs : List Hp}, Nest R xs es hs → ∀ {ys : List α} {es2 : List (List Value)} {hs2 : List Hp}, Nest R ys es2 hs2 → Nest R (xs ++ ys) (es ++ es2) (hs ++ hs2)
  | [], [], [], _, _, _, _, h2 => h2
  | x :: xs, e :: es, h :: hs, hi, _, _, _, h2 => ⟨hi.1, Nest.append hi.2 h2⟩
  | [], _ :: _, _, hi, _, _, _, _ => by cases hi
  | [], [], _ :: _, hi, _, _, _, _ => by cases hi
  | _ :: _, [], _, hi, _, _, _, _ => by cases hi
  | _ :: _, _ :: _, [], hi, _, _, _, _ => by cases hi
theorem Nest.erase : ∀ {xs : List α} {es : List (List Value)} {hs : List Hp}, Nest R xs es hs → ∀ (i : Nat), Nest R (xs.eraseIdx i) (es.eraseIdx i) (hs.eraseIdx i)
  | [], [], [], _, _ => trivial
  | x :: xs, e :: es, h :: hs, hi, 0 => hi.2
  | x :: xs, e :: es, h :: hs, hi, i + 1 => ⟨hi.1, Nest.erase hi.2 i⟩
  | [], _ :: _, _, hi, _ => by cases hi
  | [], [], _ :: _, hi, _ => by cases hi
  | _ :: _, [], _, hi, _ => by cases hi
  | _ :: _, _ :: _, [], hi, _ => by cases hi
theorem Nest.set : ∀ {xs : List α} {es : List (List Value)} {hs : List Hp}, Nest R xs es hs → ∀ (i : Nat) {x : α} {e : List Value} {h : Hp}, R x e h → Nest R (xs.set i x) (es.set i e) (hs.set i h)
  | [], [], [], _, _, _, _, _, _ => trivial
  | x :: xs, e :: es, h :: hs, hi, 0, x', e', h', hb => ⟨hb, hi.2⟩
  | x :: xs, e :: es, h :: hs, hi, i + 1, x', e', h', hb => ⟨hi.1, Nest.set hi.2 i hb⟩
  | [], _ :: _, _, hi, _, _, _, _, _ => by cases hi
  | [], [], _ :: _, hi, _, _, _, _, _ => by cases hi
  | _ :: _, [], _, hi, _, _, _, _, _ => by cases hi
  | _ :: _, _ :: _, [], hi, _, _, _, _, _ => by cases hi
theorem Nest.all {p : List Value → Prop} (hp : ∀ x e h, R x e h → p e) : ∀ {xs : List α} {es : List (List Value)} {hs : List Hp}, Nest R xs es hs → ∀ e ∈ es, p e
  | [], [], [], _, n, hn => by cases hn
  | x :: xs, e :: es, h :: hs, hi, n, hn => by
    rcases List.mem_cons.1 hn with rfl | hn
    · exact hp x _ h hi.1
    · exact Nest.all hp hi.2 n hn
  | [], _ :: _, _, hi, _, _ => by cases hi
  | [], [], _ :: _, hi, _, _ => by cases hi
  | _ :: _, [], _, hi, _, _ => by cases hi
  | _ :: _, _ :: _, [], hi, _, _ => by cases hi
end
theorem hsum_get : ∀ {hs : List Hp} {i : Nat} {h : Hp}, hs[i]? = some h → hsum hs = h + hsum (hs.eraseIdx i)
  | h :: hs, 0, h', e => by simp only [List.getElem?_cons_zero, Option.some.injEq] at e; subst e; rfl
  | h :: hs, i + 1, h', e => by
    simp only [List.getElem?_cons_succ] at e
    simp only [hsum, List.eraseIdx_cons_succ, hsum_get e]
    ac_rfl
  | [], i, h, e => by simp at e
theorem hsum_set : ∀ {hs : List Hp} {i : Nat} {h : Hp}, i < hs.length → hsum (hs.set i h) = h + hsum (hs.eraseIdx i)
  | h :: hs, 0, h', _ => rfl
  | h :: hs, i + 1, h', e => by
    simp only [List.set_cons_succ, hsum, List.eraseIdx_cons_succ, hsum_set (Nat.lt_of_succ_lt_succ e)]
    ac_rfl
  | [], i, h, e => by simp at e
theorem hsum_snoc (hs : List Hp) (h : Hp) : hsum (hs ++ [h]) = hsum hs + h := by rw [hsum_append]; simp only [hsum, hadd_zero]
theorem rd_one {w0 : World} {L : Hp} {b size c : Nat} {cs : List Value} {e : TypeId} {fz : Nat × Nat} {R : Hp} [hb : HasPt b L (.cells cs.toArray e fz) R] (hs : cs.length = size) : RdRow w0 L size (.slice (some ⟨b, 0, none⟩) 1 c) [cs] := by
  refine ⟨_, c, rfl, by simp [hs], fun i x hx => ⟨b, 0, rfl, fun j u hu => ?_⟩⟩
  cases i with
  | succ i => simp at hx
  | zero =>
    simp only [List.getElem?_cons_zero, Option.some.injEq] at hx
    subst hx
    simp only [Nat.zero_mul, Nat.zero_add]
    exact reads_pt (R := R) hu
end Sl
end Go.Proofs.Ytdbmmnpnhpiecaa
