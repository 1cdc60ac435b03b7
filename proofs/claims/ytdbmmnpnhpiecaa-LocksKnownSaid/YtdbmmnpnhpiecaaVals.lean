/-
  What each kind of operation yields, and what it does to the heap; finding a block in a sum of heaps. No program in sight.
-/
import Derived.Test.YtdbmmnpnhpiecaaOps
import Derived.WalkSpells
namespace Go.Proofs.Ytdbmmnpnhpiecaa
open Go Go.RowKit
namespace Sl
set_option linter.unusedVariables false
set_option linter.unusedSimpArgs false

/-! ### Finding a block; framing -/
class HasPt (b : Nat) (L : Hp) (o : outParam Obj) (R : outParam Hp) : Prop where
  out : L = pt b o + R
instance (b : Nat) (o : Obj) : HasPt b (pt b o) o 0 := ⟨(hadd_zero _).symm⟩
instance (priority := 1100) (b : Nat) (o : Obj) (R : Hp) : HasPt b (pt b o + R) o R := ⟨rfl⟩
instance (priority := 900) (b : Nat) (X Y : Hp) (o : Obj) (R : Hp) [h : HasPt b X o R] : HasPt b (X + Y) o (R + Y) := ⟨by rw [h.out, hadd_assoc]⟩
instance (priority := 800) (b : Nat) (X Y : Hp) (o : Obj) (R : Hp) [h : HasPt b Y o R] : HasPt b (X + Y) o (X + R) := ⟨by rw [h.out, ← hadd_assoc, hadd_comm X, hadd_assoc]⟩
/-! ### Reading -/
def Reads (w0 : World) (L : Hp) (ad : Addr) (v : Value) : Prop := ∀ w, St w0 w L → w.cell? ad = some v
theorem St.at {w0 w : World} {L : Hp} {b : Nat} {o : Obj} {R : Hp} (h : St w0 w L) (hb : HasPt b L o R) : w.heap[b]? = some o := by
  have := h.sat; rw [hb.out] at this; exact this.left.pt.2
theorem reads_pt {w0 : World} {L : Hp} {b off : Nat} {c : List Value} {e : TypeId} {fz : Nat × Nat} {R : Hp} [hb : HasPt b L (.cells c.toArray e fz) R] {v : Value} (hc : c[off]? = some v) : Reads w0 L ⟨b, off, none⟩ v := by
  intro w hst
  simp [World.cell?, hst.at hb, hc]
theorem reads_base {w0 : World} {L : Hp} {ad : Addr} {v : Value} (h : w0.cell? ad = some v) : Reads w0 L ad v := by
  intro w hst
  rw [hst.below.cell (World.block_lt_of_cell? w0 ad h)]
  exact h
theorem Reads.frame {w0 : World} {X L R : Hp} [hf : FrameI X L R] {ad : Addr} {v : Value} (h : Reads w0 X ad v) : Reads w0 L ad v := by
  intro w hst
  refine h w ?_
  rw [hf.out] at hst
  exact hst.left
theorem loads_scalar {P : Program} {w0 : World} {L : Hp} {t : TypeId} {d : TypeDesc} [hu : Und P t d] (hd : notAgg d = true) {ad : Addr} {v : Value} (hr : Reads w0 L ad v) : Loads P w0 L t ad v := by
  intro w hst
  have h1 := hr w hst
  have h2 := hu.out
  cases d <;> simp_all [loadVar, isAgg, run_underlying h2, notAgg, run_load]
theorem loads_agg {P : Program} {w0 : World} {L : Hp} {t : TypeId} {d : TypeDesc} [hu : Und P t d] (hd : notAgg d = false) {sz by' : Nat} {z : Value} [hi : Inf P t sz by' z] {ad : Addr} (vs : List Value) (hl : vs.length = sz)
    (hr : ∀ j v, vs[j]? = some v → Reads w0 L (ad.add j) v) : Loads P w0 L t ad (.agg vs.toArray) := by
  intro w hst
  have h2 := hu.out
  obtain ⟨i, h3, h4, _⟩ := hi.out
  have h5 := run_loadCells_list (P := P) w ad vs (fun j v hv => hr j v hv w hst)
  rw [hl, ← h4] at h5
  cases d <;> simp_all [loadVar, isAgg, run_underlying h2, notAgg, sizeOf, typeInfo]

theorem loads_aggR {P : Program} {w0 : World} {L : Hp} {t : TypeId} {d : TypeDesc} [hu : Und P t d] (hd : notAgg d = false) {sz by' : Nat} {z : Value} [hi : Inf P t sz by' z] {b off : Nat} (vs : List Value) (hl : vs.length = sz)
    (hr : ∀ j v, vs[j]? = some v → Reads w0 L ⟨b, off + j, none⟩ v) : Loads P w0 L t ⟨b, off, none⟩ (.agg vs.toArray) :=
  loads_agg hd vs hl fun j v hv => by
    have hadd : (⟨b, off, none⟩ : Addr).add j = ⟨b, off + j, none⟩ := by unfold Addr.add; split <;> simp_all
    rw [hadd]; exact hr j v hv

/-! ### Quiet operations -/
section
variable {P : Program} {w0 : World} {L : Hp} {g : Env}
theorem pv_move {x : Operand} {v : Value} (hx : ev g x = some v) : PV P g (.move x) v := by
  intro o a w n ho ha; unfold execOp; simp only [ho, ha.ev hx, Sem.run_pure]
theorem pv_assign {x : Operand} {v : Value} (hx : ev g x = some v) : PV P g (.assign x) v := by
  intro o a w n ho ha; unfold execOp; simp only [ho, ha.ev hx, Sem.run_pure]
theorem pv_pick_t {c x y : Operand} {v : Value} (hc : ev g c = some (.bool true)) (hx : ev g x = some v) : PV P g (.pick c x y) v := by
  intro o a w n ho ha; unfold execOp; simp only [ho, ha.ev hc, ha.ev hx, asBool, pure_bind, Sem.run_pure, if_true]
theorem pv_pick_f {c x y : Operand} {v : Value} (hc : ev g c = some (.bool false)) (hy : ev g y = some v) : PV P g (.pick c x y) v := by
  intro o a w n ho ha; unfold execOp; simp only [ho, ha.ev hc, ha.ev hy, asBool, pure_bind, Sem.run_pure, Bool.false_eq_true, if_false]
theorem pv_nilCheck {x : Operand} {ad : Addr} (hx : ev g x = some (.pointer (some ad))) : PV P g (.nilCheck x) (.pointer (some ad)) := by
  intro o a w n ho ha; unfold execOp; simp only [ho, ha.ev hx, Sem.run_pure]
theorem pv_fieldAddr {s : TypeId} {fs : Array Field} [hu : Und P s (.struct fs)] {x : Operand} {b off k : Nat} {nm tg pk : String} {ty : TypeId} {fo bo : Nat} {em : Bool} {sz by' : Nat} {z : Value}
    (hx : ev g x = some (.pointer (some ⟨b, off, none⟩))) (hf : fs[k]? = some ⟨nm, ty, fo, em, tg, pk, bo⟩) [hi : Inf P ty sz by' z] (hsz : (sz == 0) = false) :
    PV P g (.fieldAddr s x k) (.pointer (some ⟨b, off + fo, none⟩)) := by
  intro o a w n ho ha
  obtain ⟨i, h3, h4, _⟩ := hi.out
  have hne : ¬ i.size = 0 := by rw [h4]; simpa using hsz
  unfold execOp
  simp only [ho, ha.ev hx]
  have hadd : (⟨b, off, none⟩ : Addr).add fo = ⟨b, off + fo, none⟩ := by unfold Addr.add; split <;> simp_all
  simp [Instr.fieldAt, run_underlying hu.out, hf, Instr.sureAddr, fieldPlace, sizeOf, typeInfo, h3, hne, hadd]
theorem pv_indexAddr {t e : TypeId} [hu : Und P t (.slice e)] {sz by' : Nat} {z : Value} [hi : Inf P e sz by' z] {x ix : Operand} {b off len cap : Nat} {k : IntKind} {i : Nat}
    (hx : ev g x = some (.slice (some ⟨b, off, none⟩) len cap)) (hix : ev g ix = some (.int k (i : Int))) (h1 : i < len) :
    PV P g (.indexAddr t x ix) (.pointer (some ⟨b, off + i * sz, none⟩)) := by
  intro o a w n ho ha
  obtain ⟨j, h3, h4, _⟩ := hi.out
  unfold execOp
  simp only [ho, ha.ev hx, ha.ev hix]
  have hadd : (⟨b, off, none⟩ : Addr).add (i * j.size) = ⟨b, off + i * sz, none⟩ := by subst h4; unfold Addr.add; split <;> simp_all
  have hlt : (i : Int) < (len : Int) := by omega
  simp [Instr.indexAt, asIntOf, run_underlying hu.out, sizeOf, typeInfo, h3, hadd]
  intro h; omega
theorem pv_indexAddr_int {t e : TypeId} [hu : Und P t (.slice e)] {sz by' : Nat} {z : Value} [hi : Inf P e sz by' z] {x ix : Operand} {b off len cap : Nat} {k : IntKind} {i : Int}
    (hx : ev g x = some (.slice (some ⟨b, off, none⟩) len cap)) (hix : ev g ix = some (.int k i)) (h0 : 0 ≤ i) (h1 : i < len) :
    PV P g (.indexAddr t x ix) (.pointer (some ⟨b, off + i.toNat * sz, none⟩)) := by
  obtain ⟨j, rfl⟩ := Int.eq_ofNat_of_zero_le h0
  exact pv_indexAddr hx hix (by omega)
theorem pv_len {t e : TypeId} [hu : Und P t (.slice e)] {x : Operand} {ad : Option Addr} {len cap : Nat} (hx : ev g x = some (.slice ad len cap)) :
    PV P g (.call { callee := .builtin .len, args := #[x], argTypes := #[t] }) (.int .i64 len) := by
  intro o a w n ho ha
  unfold execOp
  simp [ho, resolve, invoke, builtin, ha.ev hx, Builtin.len_, run_underlying hu.out, goInt]
theorem wrap_i64_in (n : Int) (h0 : -9223372036854775808 ≤ n) (h1 : n ≤ 9223372036854775807) : IntKind.i64.wrap n = n := IntWalk.i64_in n ⟨h0, h1⟩
theorem pv_not {x : Operand} {t : TypeId} {b : Bool} (hx : ev g x = some (.bool b)) : PV P g (.unOp .not t x) (.bool (!b)) := by
  intro o a w n ho ha; unfold execOp; simp [ho, ha.ev hx, Op.unary]
theorem pv_extract {x : Operand} {i : Nat} {vs : Array Value} {v : Value} (hx : ev g x = some (.tuple vs)) (hv : vs[i]? = some v) : PV P g (.extract x i) v := by
  intro o a w n ho ha; unfold execOp; simp [ho, ha.ev hx, Instr.extract, hv]
theorem pv_nil_eq {t e ty : TypeId} [hu : Und P t (.pointer e)] {x y : Operand} {ad : Addr} (hx : ev g x = some (.pointer (some ad))) (hy : ev g y = some (.pointer none)) : PV P g (.binOp .eql t x y ty) (.bool false) := by
  intro o a w n ho ha; unfold execOp
  have e : (Op.equal t (.pointer (some ad)) (.pointer none)).run P w = .ok false w := by
    show (Op.equalIn (9999 + 1) t _ _).run P w = _
    unfold Op.equalIn
    simp only [Sem.run_bind, run_underlying hu.out, Result.andThen_ok, Sem.run_pure]
  have e2 : binOp .eql t (.pointer (some ad)) (.pointer none) = (do pure (.bool (← Op.equal t (.pointer (some ad)) (.pointer none)))) := rfl
  simp only [ho, ha.ev hx, ha.ev hy, eqGuard, e2, Sem.run_bind, e, Result.andThen_ok, Sem.run_pure]
  simp only [Bool.not_true, Bool.false_eq_true, if_false, Sem.run_pure, Result.andThen_ok, e]
theorem pv_nil_ne {t e ty : TypeId} [hu : Und P t (.pointer e)] {x y : Operand} {ad : Addr} (hx : ev g x = some (.pointer (some ad))) (hy : ev g y = some (.pointer none)) : PV P g (.binOp .neq t x y ty) (.bool true) := by
  intro o a w n ho ha; unfold execOp
  have e : (Op.equal t (.pointer (some ad)) (.pointer none)).run P w = .ok false w := by
    show (Op.equalIn (9999 + 1) t _ _).run P w = _
    unfold Op.equalIn
    simp only [Sem.run_bind, run_underlying hu.out, Result.andThen_ok, Sem.run_pure]
  have e2 : binOp .neq t (.pointer (some ad)) (.pointer none) = (do pure (.bool (!(← Op.equal t (.pointer (some ad)) (.pointer none))))) := rfl
  simp only [ho, ha.ev hx, ha.ev hy, eqGuard, e2, Sem.run_bind, e, Result.andThen_ok, Sem.run_pure]
  simp only [Bool.not_true, Bool.not_false, Bool.false_eq_true, if_false, Sem.run_pure, Result.andThen_ok, e]
theorem pv_neg {x : Operand} {t : TypeId} {n : Int} (hx : ev g x = some (.int .i64 n)) (h0 : -9223372036854775807 ≤ n) (h1 : n ≤ 9223372036854775807) : PV P g (.unOp .neg t x) (.int .i64 (-n)) := by
  intro o a w k ho ha; unfold execOp
  have := IntWalk.i64_in (0 - n) ⟨by omega, by omega⟩
  simp [ho, ha.ev hx, Op.unary, Op.intArith] at this ⊢
  exact this
theorem pv_makeFunc {k : Nat} {first : List Operand} {vs : List Value} (h : evs g first = some vs) : PV P g (.makeFunc (.func k) first.toArray #[]) (.func (.func k) vs.toArray #[]) := by
  intro o a w n ho ha; unfold execOp
  simp [ho, Instr.makeFunc, ha.evs h]
/-- The operations that only hand values on. -/
def pureV (g : Env) : Op → Option Value
  | .move x => ev g x
  | .assign x => ev g x
  | .nilCheck x => match ev g x with
    | some (.pointer (some a)) => some (.pointer (some a))
    | _ => none
  | .pick c a b => match ev g c with
    | some (.bool true) => ev g a
    | some (.bool false) => ev g b
    | _ => none
  | .unOp .not _ x => match ev g x with
    | some (.bool b) => some (.bool (!b))
    | _ => none
  | .extract x i => match ev g x with
    | some (.tuple vs) => vs.toList[i]?
    | _ => none
  | .makeFunc (.func k) first cap => match cap.toList, evs g first.toList with
    | [], some vs => some (.func (.func k) vs.toArray #[])
    | _, _ => none
  | _ => none
theorem pv_of {op : Op} {v : Value} (h : pureV g op = some v) : PV P g op v := by
  cases op with
  | move x => exact pv_move h
  | assign x => exact pv_assign h
  | nilCheck x =>
    simp only [pureV] at h
    split at h
    · rename_i a e; simp only [Option.some.injEq] at h; subst h; exact pv_nilCheck e
    · cases h
  | pick c a b =>
    simp only [pureV] at h
    split at h
    · rename_i e; exact pv_pick_t e h
    · rename_i e; exact pv_pick_f e h
    · cases h
  | unOp u t x =>
    cases u <;> simp only [pureV] at h <;> try cases h
    split at h
    · rename_i b e; simp only [Option.some.injEq] at h; subst h; exact pv_not e
    · cases h
  | extract x i =>
    simp only [pureV] at h
    split at h
    · rename_i vs e; exact pv_extract e (by simpa using h)
    · cases h
  | makeFunc fn first cap =>
    cases fn <;> simp only [pureV] at h <;> try cases h
    split at h
    · rename_i vs e1 e2
      simp only [Option.some.injEq] at h; subst h
      have hc : cap = #[] := by apply Array.ext'; simpa using e1
      subst hc
      have := pv_makeFunc (P := P) (g := g) (k := ‹_›) e2
      simpa using this
    · cases h
  | _ => simp [pureV] at h
/-- The places of a struct's fields: offset and size. -/
class Plc (P : Program) (t : TypeId) (pl : outParam (List (Nat × Nat))) : Prop where
  out : ∃ fs, P.underlying t = some (.struct fs) ∧ ∀ w, (fs.mapM fun f => (do pure (f.offset, ← sizeOf f.type) : Sem (Nat × Nat))).run P w = .ok pl.toArray w
def spliceL : Nat → List Value → List Value → List Value
  | _, [], cs => cs
  | 0, x :: v, _ :: cs => x :: spliceL 0 v cs
  | n + 1, v, c :: cs => c :: spliceL n v cs
  | _, _, [] => []
theorem splice_nil (n : Nat) (cs : List Value) : spliceL n [] cs = cs := by cases n <;> cases cs <;> rfl
theorem splice_set : ∀ (n : Nat) (x : Value) (v cs : List Value), spliceL n (x :: v) cs = spliceL (n + 1) v (cs.set n x)
  | 0, x, v, [] => by cases v <;> rfl
  | 0, x, v, c :: cs => by cases v <;> first | rfl | (show x :: spliceL 0 [] cs = x :: cs; rw [splice_nil])
  | n + 1, x, v, [] => by cases v <;> rfl
  | n + 1, x, v, c :: cs => by
    show c :: spliceL n (x :: v) cs = _
    rw [splice_set n x v cs]
    cases v with
    | nil => rw [splice_nil, splice_nil]; rfl
    | cons y v => rfl
def fillL (pl : Nat → Option (Nat × Nat)) : List Value → List (Nat × Value) → Option (List Value)
  | cells, [] => some cells
  | cells, (i, v) :: rest => match pl i with
    | none => none
    | some (off, size) => if (v.cells.size == size && decide (off + v.cells.size ≤ cells.length)) = true then fillL pl (spliceL off v.cells.toList cells) rest else none
theorem foldl_splice : ∀ (v : List Value) (off k : Nat) (cs : List Value), (v.zipIdx k).foldl (fun (cs : Array Value) (p : Value × Nat) => cs.setIfInBounds (off + p.2) p.1) cs.toArray = (spliceL (off + k) v cs).toArray
  | [], off, k, cs => by simp [splice_nil]
  | x :: v, off, k, cs => by
    simp only [List.zipIdx_cons, List.foldl_cons, List.setIfInBounds_toArray]
    rw [foldl_splice v off (k + 1) (cs.set (off + k) x), splice_set]
    rfl
theorem spliceL_length : ∀ (n : Nat) (v cs : List Value), (spliceL n v cs).length = cs.length
  | _, [], cs => by rw [splice_nil]
  | 0, x :: v, [] => rfl
  | 0, x :: v, c :: cs => by simp [spliceL, spliceL_length 0 v cs]
  | n + 1, x :: v, [] => rfl
  | n + 1, x :: v, c :: cs => by simp [spliceL, spliceL_length n (x :: v) cs]
theorem fill_eq (pl : Nat → Option (Nat × Nat)) : ∀ (parts : List (Nat × Value)) (cells out : List Value), fillL pl cells parts = some out → Instr.fill pl cells.toArray parts = some out.toArray
  | [], cells, out, h => by simp only [fillL, Option.some.injEq] at h; subst h; rfl
  | (i, v) :: rest, cells, out, h => by
    simp only [fillL] at h
    unfold Instr.fill
    cases hp : pl i with
    | none => simp [hp] at h
    | some p =>
      obtain ⟨off, size⟩ := p
      simp only [hp] at h ⊢
      split at h
      · rename_i hc
        simp only [Bool.and_eq_true, beq_iff_eq, decide_eq_true_eq] at hc
        rw [if_neg (by simp [hc.1]; have := hc.2; omega)]
        have e := foldl_splice v.cells.toList off 0 cells
        have e2 : (v.cells.zipIdx.foldl (fun (cs : Array Value) (p : Value × Nat) => cs.setIfInBounds (off + p.2) p.1) cells.toArray) = (spliceL off v.cells.toList cells).toArray := by
          rw [← Array.foldl_toList, Array.toList_zipIdx]; exact e
        rw [show (Array.foldl (fun cs x => match x with | (c, j) => cs.setIfInBounds (off + j) c) cells.toArray v.cells.zipIdx) = (spliceL off v.cells.toList cells).toArray from e2]
        exact fill_eq pl rest _ out h
      · cases h
theorem zeros_eq (z : Array Value) (len sz : Nat) (hz : z.size = sz) : (Array.range (len * sz)).map (z[· % z.size]!) = (List.replicate len z.toList).flatten.toArray := by
  apply Array.ext'
  apply List.ext_getElem?
  intro j
  subst hz
  have hl : (List.replicate len z.toList).flatten.length = len * z.size := by simp
  by_cases hj : j < len * z.size
  · have hz0 : 0 < z.size := by
      rcases Nat.eq_zero_or_pos z.size with h | h
      · rw [h] at hj; omega
      · exact h
    have hr : j % z.size < z.size := Nat.mod_lt _ hz0
    have hq : j / z.size < len := Nat.div_lt_of_lt_mul (by rw [Nat.mul_comm]; exact hj)
    have e : (List.replicate len z.toList).flatten[j]? = z.toList[j % z.size]? := by
      have key : ∀ (len : Nat) (j : Nat), j < len * z.size → (List.replicate len z.toList).flatten[j]? = z.toList[j % z.size]? := by
        intro len
        induction len with
        | zero => intro j hj; omega
        | succ len ih =>
          intro j hj
          simp only [List.replicate_succ, List.flatten_cons]
          by_cases h : j < z.size
          · rw [List.getElem?_append_left (by simpa using h), Nat.mod_eq_of_lt h]
          · rw [List.getElem?_append_right (by simp; omega)]
            rw [Nat.succ_mul] at hj
            simp only [Array.length_toList]
            rw [ih (j - z.size) (by omega), ← Nat.mod_eq_sub_mod (by omega)]
      exact key len j hj
    rw [List.toList_toArray, e]
    simp [hj, hr]
  · have h1 : ((Array.range (len * z.size)).map (z[· % z.size]!)).toList.length ≤ j := by simp; omega
    have h2 : (List.replicate len z.toList).flatten.toArray.toList.length ≤ j := by rw [List.toList_toArray, hl]; omega
    rw [List.getElem?_eq_none h1, List.getElem?_eq_none h2]
theorem pv_build {t : TypeId} {pl : List (Nat × Nat)} [hpl : Plc P t pl] {sz by' : Nat} {z : Value} [hi : Inf P t sz by' z] {parts : List (Nat × Operand)} {vs cells : List Value}
    (hp : evs g (parts.map (·.2)) = some vs) (hfill : fillL (fun i => pl[i]?) z.cells.toList ((parts.map (·.1)).zip vs) = some cells) : PV P g (.build t parts.toArray) (.agg cells.toArray) := by
  intro o a w n ho ha
  obtain ⟨i, h1, h2, h3, h4⟩ := hi.out
  obtain ⟨fs, f1, f2⟩ := hpl.out
  have hparts : parts.map (fun (p : Nat × Operand) => (p.1, a.eval p.2)) = (parts.map (·.1)).zip vs := by
    have := ha.evs hp
    rw [← this]
    clear hp hfill this ho
    induction parts with
    | nil => rfl
    | cons p l ih => simp only [List.map_cons, List.zip_cons_cons, ih]
  have hf := fill_eq _ _ _ _ hfill
  have hz : z.cells.toList.toArray = z.cells := by simp
  rw [hz] at hf
  unfold execOp
  simp only [ho, Instr.build, zeroValue, typeInfo, Sem.run_bind, run_program, h1, h4, Sem.run_pure, Result.andThen_ok, run_underlying f1, List.map_toArray, hparts, f2, List.toList_toArray, List.getElem?_toArray, hf]
theorem lv_load {t : TypeId} {x : Operand} {ad : Addr} (hx : ev g x = some (.pointer (some ad))) : LV g (.load t x) t ad := by
  intro o a n ho ha; unfold execOp
  simp only [ho, ha.ev hx, Instr.loadAt, Instr.sureAddr, pure_bind]
section
variable {t ty : TypeId} {x y : Operand} {k : IntKind} {i j : Int}
theorem run_guard_int (op : BinOp) (w : World) : (eqGuard op t x y (.int k i) (.int k j)).run P w = .ok () w := by
  unfold eqGuard; split <;> simp
theorem pv_lss (hx : ev g x = some (.int k i)) (hy : ev g y = some (.int k j)) : PV P g (.binOp .lss t x y ty) (.bool (decide (i < j))) := by
  intro o a w n ho ha
  unfold execOp
  simp only [ho, ha.ev hx, ha.ev hy, Sem.run_bind, run_guard_int, Result.andThen_ok]
  simp [binOp, Op.intCmp]
theorem pv_leq (hx : ev g x = some (.int k i)) (hy : ev g y = some (.int k j)) : PV P g (.binOp .leq t x y ty) (.bool (decide (i ≤ j))) := by
  intro o a w n ho ha
  unfold execOp
  simp only [ho, ha.ev hx, ha.ev hy, Sem.run_bind, run_guard_int, Result.andThen_ok]
  simp [binOp, Op.intCmp]
theorem pv_gtr (hx : ev g x = some (.int k i)) (hy : ev g y = some (.int k j)) : PV P g (.binOp .gtr t x y ty) (.bool (decide (j < i))) := by
  intro o a w n ho ha
  unfold execOp
  simp only [ho, ha.ev hx, ha.ev hy, Sem.run_bind, run_guard_int, Result.andThen_ok]
  simp [binOp, Op.intCmp]
theorem pv_geq (hx : ev g x = some (.int k i)) (hy : ev g y = some (.int k j)) : PV P g (.binOp .geq t x y ty) (.bool (decide (j ≤ i))) := by
  intro o a w n ho ha
  unfold execOp
  simp only [ho, ha.ev hx, ha.ev hy, Sem.run_bind, run_guard_int, Result.andThen_ok]
  simp [binOp, Op.intCmp]
theorem pv_eql (hx : ev g x = some (.int k i)) (hy : ev g y = some (.int k j)) : PV P g (.binOp .eql t x y ty) (.bool (decide (i = j))) := by
  intro o a w n ho ha
  unfold execOp
  simp only [ho, ha.ev hx, ha.ev hy, Sem.run_bind, run_guard_int, Result.andThen_ok]
  simp [binOp, Op.intCmp]; rfl
theorem pv_neq (hx : ev g x = some (.int k i)) (hy : ev g y = some (.int k j)) : PV P g (.binOp .neq t x y ty) (.bool (decide (i ≠ j))) := by
  intro o a w n ho ha
  unfold execOp
  simp only [ho, ha.ev hx, ha.ev hy, Sem.run_bind, run_guard_int, Result.andThen_ok]
  simp [binOp, Op.intCmp, bne]; rfl
theorem pv_add_w (hx : ev g x = some (.int k i)) (hy : ev g y = some (.int k j)) : PV P g (.binOp .add t x y ty) (.int k (k.wrap (i + j))) := by
  intro o a w n ho ha
  unfold execOp
  simp only [ho, ha.ev hx, ha.ev hy, Sem.run_bind, run_guard_int, Result.andThen_ok]
  simp [binOp, Op.intArith]
theorem pv_add (hx : ev g x = some (.int .i64 i)) (hy : ev g y = some (.int .i64 j)) (h0 : -9223372036854775808 ≤ i + j) (h1 : i + j ≤ 9223372036854775807) : PV P g (.binOp .add t x y ty) (.int .i64 (i + j)) := by
  have h := pv_add_w (P := P) (t := t) (ty := ty) hx hy
  rwa [wrap_i64_in _ h0 h1] at h
theorem pv_sub_w (hx : ev g x = some (.int k i)) (hy : ev g y = some (.int k j)) : PV P g (.binOp .sub t x y ty) (.int k (k.wrap (i - j))) := by
  intro o a w n ho ha
  unfold execOp
  simp only [ho, ha.ev hx, ha.ev hy, Sem.run_bind, run_guard_int, Result.andThen_ok]
  simp [binOp, Op.intArith]
theorem pv_sub (hx : ev g x = some (.int .i64 i)) (hy : ev g y = some (.int .i64 j)) (h0 : -9223372036854775808 ≤ i - j) (h1 : i - j ≤ 9223372036854775807) : PV P g (.binOp .sub t x y ty) (.int .i64 (i - j)) := by
  have h := pv_sub_w (P := P) (t := t) (ty := ty) hx hy
  rwa [wrap_i64_in _ h0 h1] at h
theorem pv_mul_w (hx : ev g x = some (.int k i)) (hy : ev g y = some (.int k j)) : PV P g (.binOp .mul t x y ty) (.int k (k.wrap (i * j))) := by
  intro o a w n ho ha
  unfold execOp
  simp only [ho, ha.ev hx, ha.ev hy, Sem.run_bind, run_guard_int, Result.andThen_ok]
  simp [binOp, Op.intArith]
theorem pv_mul (hx : ev g x = some (.int .i64 i)) (hy : ev g y = some (.int .i64 j)) (h0 : -9223372036854775808 ≤ i * j) (h1 : i * j ≤ 9223372036854775807) : PV P g (.binOp .mul t x y ty) (.int .i64 (i * j)) := by
  have h := pv_mul_w (P := P) (t := t) (ty := ty) hx hy
  rwa [wrap_i64_in _ h0 h1] at h
theorem pv_rem (hx : ev g x = some (.int k i)) (hy : ev g y = some (.int k j)) (h : j ≠ 0) : PV P g (.binOp .rem t x y ty) (.int k (i.tmod j)) := by
  intro o a w n ho ha
  unfold execOp
  simp only [ho, ha.ev hx, ha.ev hy, Sem.run_bind, run_guard_int, Result.andThen_ok]
  simp [binOp, Op.intDiv, h]
theorem pv_quo (hx : ev g x = some (.int k i)) (hy : ev g y = some (.int k j)) (h : j ≠ 0) : PV P g (.binOp .quo t x y ty) (.int k (k.wrap (i.tdiv j))) := by
  intro o a w n ho ha
  unfold execOp
  simp only [ho, ha.ev hx, ha.ev hy, Sem.run_bind, run_guard_int, Result.andThen_ok]
  simp [binOp, Op.intDiv, h]
theorem pv_xor (hx : ev g x = some (.int k i)) (hy : ev g y = some (.int k j)) : PV P g (.binOp .xor t x y ty) (.int k (k.wrap (BitVec.ofInt k.bits i ^^^ BitVec.ofInt k.bits j).toNat)) := by
  intro o a w n ho ha
  unfold execOp
  simp only [ho, ha.ev hx, ha.ev hy, Sem.run_bind, run_guard_int, Result.andThen_ok]
  simp [binOp, Op.intBits]
end
end
end Sl
end Go.Proofs.Ytdbmmnpnhpiecaa
