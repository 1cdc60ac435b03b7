/-
  Structs and arrays of plain numbers and bools held against each other. No program in sight.
-/
import Derived.Test.YtdbmmnpnhpiecaaNest
import Derived.Laws.StructEq
import Derived.ChangeKeysEq
namespace Go.Proofs.Ytdbmmnpnhpiecaa
open Go Go.RowKit
namespace Sl
set_option linter.unusedVariables false
set_option linter.unusedSimpArgs false
section
variable {P : Program} {g : Env}
def cellEq (P : Program) (t : TypeId) (a b : Option Value) : Option Bool :=
  match P.underlying t, a, b with
  | some (.int _), some (.int k x), some (.int k' y) => if k = k' then some (decide (x = y)) else none
  | some .bool, some (.bool x), some (.bool y) => some (x == y)
  | _, _, _ => none
theorem run_cellEq {t : TypeId} {xs ys : Array Value} {o : Nat} {r : Bool} (h : cellEq P t xs[o]? ys[o]? = some r) (d : Nat) (w : World) {β : Type} (f : Bool → Sem β) :
    (do let a ← part t xs o; let b ← part t ys o; let q ← Op.equalIn (d + 1) t a b; f q : Sem β).run P w = (f r).run P w := by
  unfold cellEq at h
  split at h
  · rename_i a b q k x k' y e1 e2 e3
    split at h
    · rename_i ek
      subst ek
      simp only [Option.some.injEq] at h
      subst h
      simp only [part, isAgg, Sem.run_bind, run_underlying e1, Result.andThen_ok, Sem.run_pure, e2, e3, Bool.false_eq_true, if_false]
      rw [show (Op.equalIn (d + 1) t (.int k x) (.int k y)).run P w = .ok (x == y) w from run_equalIn_int w d t k q x y e1]
      rfl
    · cases h
  · rename_i a b x y e1 e2 e3
    simp only [Option.some.injEq] at h
    subst h
    simp only [part, isAgg, Sem.run_bind, run_underlying e1, Result.andThen_ok, Sem.run_pure, e2, e3, run_equalIn_bool w d t x y e1, Bool.false_eq_true, if_false]
  · cases h
def fieldsEq (P : Program) (xs ys : Array Value) : List Field → Option Bool
  | [] => some true
  | f :: fs => if f.name == "_" then none else match cellEq P f.type xs[f.offset]? ys[f.offset]?, fieldsEq P xs ys fs with
    | some r, some q => some (r && q)
    | _, _ => none
theorem run_fieldsEq {xs ys : Array Value} (d : Nat) (w : World) : ∀ {fs : List Field} {r : Bool}, fieldsEq P xs ys fs = some r → (Op.eqFields (d + 1) xs ys fs).run P w = .ok r w
  | [], r, h => by simp only [fieldsEq, Option.some.injEq] at h; subst h; rfl
  | f :: fs, r, h => by
    simp only [fieldsEq] at h
    split at h
    · cases h
    · rename_i hn
      split at h
      · rename_i r1 q e1 e2
        simp only [Option.some.injEq] at h
        subst h
        have hn' : f.name ≠ "_" := by simpa using hn
        unfold Op.eqFields
        rw [if_pos hn', run_cellEq e1 d w]
        cases r1
        · rfl
        · simp only [Bool.not_true, Bool.false_eq_true, if_false, Bool.true_and]; exact run_fieldsEq d w e2
      · cases h
def itemsEq (P : Program) (e : TypeId) (c : Nat) (xs ys : Array Value) : List Nat → Option Bool
  | [] => some true
  | i :: is => match cellEq P e xs[i * c]? ys[i * c]?, itemsEq P e c xs ys is with
    | some r, some q => some (r && q)
    | _, _ => none
theorem run_itemsEq {e : TypeId} {c : Nat} {xs ys : Array Value} (d : Nat) (w : World) : ∀ {is : List Nat} {r : Bool}, itemsEq P e c xs ys is = some r → (Op.eqItems (d + 1) e c xs ys is).run P w = .ok r w
  | [], r, h => by simp only [itemsEq, Option.some.injEq] at h; subst h; rfl
  | i :: is, r, h => by
    simp only [itemsEq] at h
    split at h
    · rename_i r1 q e1 e2
      simp only [Option.some.injEq] at h
      subst h
      unfold Op.eqItems
      rw [run_cellEq e1 d w]
      cases r1
      · rfl
      · simp only [Bool.not_true, Bool.false_eq_true, if_false, Bool.true_and]; exact run_itemsEq d w e2
    · cases h
theorem pv_eql_struct {t ty : TypeId} {fs : Array Field} [hu : Und P t (.struct fs)] {x y : Operand} {xs ys : List Value} {r : Bool} (hx : ev g x = some (.agg xs.toArray)) (hy : ev g y = some (.agg ys.toArray))
    (hp : P.stoodInHeld t = false) (hm : P.eqGuardType P.depth t = false) (he : fieldsEq P xs.toArray ys.toArray fs.toList = some r) : PV P g (.binOp .eql t x y ty) (.bool r) := by
  intro o a w m ho ha; unfold execOp
  have hf : P.fieldsOf t = fs := by simp [Program.fieldsOf, hu.out]
  have hu' : P.underlying t = some (.struct (P.fieldsOf t)) := by rw [hf]; exact hu.out
  have := run_equalIn_agg (P := P) w 9999 t xs.toArray ys.toArray hu' hp
  rw [hf, run_fieldsEq 9998 w he] at this
  simp only [ho, ha.ev hx, ha.ev hy, Sem.run_bind, run_eqGuard_agg _ _ _ _ _ _ _ hm, Result.andThen_ok, run_eql_struct, this, Sem.run_pure]
theorem pv_neq_struct {t ty : TypeId} {fs : Array Field} [hu : Und P t (.struct fs)] {x y : Operand} {xs ys : List Value} {r : Bool} (hx : ev g x = some (.agg xs.toArray)) (hy : ev g y = some (.agg ys.toArray))
    (hp : P.stoodInHeld t = false) (hm : P.eqGuardType P.depth t = false) (he : fieldsEq P xs.toArray ys.toArray fs.toList = some r) : PV P g (.binOp .neq t x y ty) (.bool (!r)) := by
  intro o a w m ho ha; unfold execOp
  have hf : P.fieldsOf t = fs := by simp [Program.fieldsOf, hu.out]
  have hu' : P.underlying t = some (.struct (P.fieldsOf t)) := by rw [hf]; exact hu.out
  have := run_equalIn_agg (P := P) w 9999 t xs.toArray ys.toArray hu' hp
  rw [hf, run_fieldsEq 9998 w he] at this
  simp only [ho, ha.ev hx, ha.ev hy, Sem.run_bind, run_eqGuard_agg _ _ _ _ _ _ _ hm, Result.andThen_ok, run_neq_struct, this, Sem.run_pure]
theorem pv_eql_array {t e ty : TypeId} {n : Nat} [hu : Und P t (.array n e)] {sz by' : Nat} {z : Value} [hi : Inf P e sz by' z] {x y : Operand} {xs ys : List Value} {r : Bool} (hx : ev g x = some (.agg xs.toArray)) (hy : ev g y = some (.agg ys.toArray))
    (hm : P.eqGuardType P.depth t = false) (he : itemsEq P e sz xs.toArray ys.toArray (List.range n) = some r) : PV P g (.binOp .eql t x y ty) (.bool r) := by
  intro o a w m ho ha; unfold execOp
  obtain ⟨i, i1, i2, _⟩ := hi.out
  have hc : P.cellsOf e = sz := by simp [Program.cellsOf, i1, i2]
  have := run_equalIn_array (P := P) (w := w) 9999 xs.toArray ys.toArray hu.out i1
  rw [hc, run_itemsEq 9998 w he] at this
  simp only [ho, ha.ev hx, ha.ev hy, Sem.run_bind, run_eqGuard_agg _ _ _ _ _ _ _ hm, Result.andThen_ok, run_eql_struct, this, Sem.run_pure]
end
end Sl
end Go.Proofs.Ytdbmmnpnhpiecaa
