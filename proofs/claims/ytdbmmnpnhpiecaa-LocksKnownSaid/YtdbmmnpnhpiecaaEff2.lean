/-
  More operations: structs and arrays loaded and stored whole, slices of slices, clear, append in place, arrays built and compared. No program in sight.
-/
import Derived.Test.YtdbmmnpnhpiecaaEffs
namespace Go.Proofs.Ytdbmmnpnhpiecaa
open Go Go.RowKit
namespace Sl
set_option linter.unusedVariables false
set_option linter.unusedSimpArgs false
section
variable {P : Program} {n : Nat} {w0 : World} {Q : Post} {g : Env} {L : Hp} {ops : Array Oper} {rest : List Oper} {dst : Option Nat} {ty : TypeId} {pos : String} {af : Array Edge} {gd : Option (Nat × Bool)}

/-! ### Cells stored one behind the other -/
theorem run_storeCells {b off : Nat} {e : TypeId} {R : Hp} : ∀ (vs : List Value) (i : Nat) (c : List Value) (w : World), St w0 w (pt b (.cells c.toArray e (0, 0)) + R) → (∀ v ∈ vs, v.oneCell' = true) → off + i + vs.length ≤ c.length →
    ∃ w', (storeCells ⟨b, off, none⟩ vs i).run P w = .ok () w' ∧ St w0 w' (pt b (.cells (spliceL (off + i) vs c).toArray e (0, 0)) + R)
  | [], i, c, w, h, _, _ => ⟨w, by simp [storeCells], by rw [splice_nil]; exact h⟩
  | v :: vs, i, c, w, h, h1, h2 => by
    simp only [List.length_cons] at h2
    have hb := h.sat.left.pt.2
    have hcell : w.cell? ⟨b, off + i, none⟩ = some (c[off + i]'(by omega)) := by simp [World.cell?, hb, show off + i < c.length by omega]
    have hfr : w.frozen? ⟨b, off + i, none⟩ = false := by simp [World.frozen?, hb]
    have h' := St.store (off := off + i) h v
    obtain ⟨w', e1, e2⟩ := run_storeCells (off := off) vs (i + 1) (c.set (off + i) v) _ h' (fun u hu => h1 u (by simp [hu])) (by simp; omega)
    refine ⟨w', ?_, ?_⟩
    · simp only [storeCells, Sem.run_bind, add_none, run_store P w _ v .plain (h1 v (by simp)), hcell, hfr, Bool.false_eq_true, if_false, Result.andThen_ok, e1]
    · rw [splice_set]; exact e2
theorem ev_storeA {t : TypeId} {sz by' : Nat} {z : Value} [hi : Inf P t sz by' z] {x y : Operand} {b off : Nat} {c : List Value} {e : TypeId} {vs : List Value} {R : Hp}
    (hx : ev g x = some (.pointer (some ⟨b, off, none⟩))) (hy : ev g y = some (.agg vs.toArray)) (hl : (vs.length == sz) = true) (h1 : vs.all (·.oneCell') = true) [hb : HasPt b L (.cells c.toArray e (0, 0)) R] (hc : off + vs.length ≤ c.length)
    {c' : List Value} (hc' : spliceL off vs c = c') : EV P w0 L g (.store t x y) fun _ L' => L' = pt b (.cells c'.toArray e (0, 0)) + R := by
  intro o a w m ho ha hst
  subst hc'
  obtain ⟨i, i1, i2, i3, i4⟩ := hi.out
  rw [hb.out] at hst
  obtain ⟨w', e1, e2⟩ := run_storeCells (P := P) (off := off) vs 0 c w hst (fun v hv => List.all_eq_true.1 h1 v hv) (by omega)
  refine ⟨undef, w', _, .inr ⟨?_, rfl⟩, rfl, e2⟩
  have hsz : ¬ ((Value.agg vs.toArray).cells.size ≠ sz) := by simpa [Value.cells] using hl
  have e1' : (storeCells ⟨b, off, none⟩ (Value.agg vs.toArray).cells.toList).run P w = .ok () w' := e1
  unfold execOp
  simp only [ho, ha.ev hx, ha.ev hy, Instr.storeAt, Instr.sureAddr, pure_bind, storeVar, sizeOf, typeInfo, Sem.run_bind, run_program, i1, Sem.run_pure, Result.andThen_ok, i2, hsz, if_false, e1']
theorem L_stA {t : TypeId} {sz by' : Nat} {z : Value} [hi : Inf P t sz by' z] {x y : Operand} {b off : Nat} {c : List Value} {e : TypeId} {vs : List Value} {R : Hp}
    (hx : ev g x = some (.pointer (some ⟨b, off, none⟩))) (hy : ev g y = some (.agg vs.toArray)) [hb : HasPt b L (.cells c.toArray e (0, 0)) R] (hl : (vs.length == sz) = true) (h1 : vs.all (·.oneCell') = true) (hc : Nat.ble (off + vs.length) c.length = true)
    {c' : List Value} (hc' : spliceL off vs c = c') (hw : wantedE ops g gd = some true) (hk : HoldL P n w0 ops rest Q g (pt b (.cells c'.toArray e (0, 0)) + R)) :
    HoldL P n w0 ops (⟨none, .store t x y, ty, pos, af, gd⟩ :: rest) Q g L := L_eff hw rfl (ev_storeA hx hy hl h1 (Nat.le_of_ble_eq_true hc) hc') (by rintro _ _ rfl; exact hk)
theorem loads_part {t : TypeId} {d : TypeDesc} [hu : Und P t d] (hd : notAgg d = false) {sz by' : Nat} {z : Value} [hi : Inf P t sz by' z] {b off : Nat} {c : List Value} {e : TypeId} {fz : Nat × Nat} {R : Hp}
    [hb : HasPt b L (.cells c.toArray e fz) R] {vs : List Value} (hc : (c.drop off).take sz = vs) (hl : (vs.length == sz) = true) : Loads P w0 L t ⟨b, off, none⟩ (.agg vs.toArray) :=
  loads_aggR hd vs (by simpa using hl) fun j v hv => reads_pt (R := R) (by
    subst hc
    rw [List.getElem?_take] at hv
    split at hv
    · rwa [List.getElem?_drop] at hv
    · cases hv)
theorem L_ldA {t : TypeId} {d : TypeDesc} [hu : Und P t d] {sz by' : Nat} {z : Value} [hi : Inf P t sz by' z] {x : Operand} {b off : Nat} {c : List Value} {e : TypeId} {fz : Nat × Nat} {R : Hp} {vs : List Value}
    (hx : ev g x = some (.pointer (some ⟨b, off, none⟩))) [hb : HasPt b L (.cells c.toArray e fz) R] (hc : (c.drop off).take sz = vs) (hl : (vs.length == sz) = true) (hn : notAgg d = false)
    (hw : wantedE ops g gd = some true) (hd : dst.all (· < n) = true) (hk : HoldL P n w0 ops rest Q (putE g dst (.agg vs.toArray)) L) :
    HoldL P n w0 ops (⟨dst, .load t x, ty, pos, af, gd⟩ :: rest) Q g L := L_load hw hd (lv_load hx) (loads_part hn hc hl) hk

/-! ### Numbers, arrays -/
theorem pv_min {x y : Operand} {ts : Array TypeId} {k : IntKind} {i j : Int} (hx : ev g x = some (.int k i)) (hy : ev g y = some (.int k j)) :
    PV P g (.call { callee := .builtin .min, args := #[x, y], argTypes := ts }) (.int k (if j < i then j else i)) := by
  intro o a w m ho ha
  have := run_min_int2 (P := P) w ts o.type k k i j
  unfold execOp
  simp [ho, resolve, invoke, builtin, ha.ev hx, ha.ev hy, this]
theorem pv_max {x y : Operand} {ts : Array TypeId} {k : IntKind} {i j : Int} (hx : ev g x = some (.int k i)) (hy : ev g y = some (.int k j)) :
    PV P g (.call { callee := .builtin .max, args := #[x, y], argTypes := ts }) (.int k (if i < j then j else i)) := by
  intro o a w m ho ha
  have := run_max_int2 (P := P) w ts o.type k k i j
  unfold execOp
  simp [ho, resolve, invoke, builtin, ha.ev hx, ha.ev hy, this]
theorem pv_buildArr {t e : TypeId} {len : Nat} [hu : Und P t (.array len e)] {sz by' : Nat} {z : Value} [hi : Inf P t sz by' z] {esz eby : Nat} {ez : Value} [he : Inf P e esz eby ez] {parts : List (Nat × Operand)} {vs cells : List Value}
    (hp : evs g (parts.map (·.2)) = some vs) (hfill : fillL (fun i => some (i * esz, esz)) z.cells.toList ((parts.map (·.1)).zip vs) = some cells) : PV P g (.build t parts.toArray) (.agg cells.toArray) := by
  intro o a w m ho ha
  obtain ⟨i, h1, h2, h3, h4⟩ := hi.out
  obtain ⟨j, j1, j2, _⟩ := he.out
  have hparts : parts.map (fun (p : Nat × Operand) => (p.1, a.eval p.2)) = (parts.map (·.1)).zip vs := by rw [map_pairs, ha.evs hp]
  have hf := fill_eq _ _ _ _ hfill
  rw [show z.cells.toList.toArray = z.cells by simp] at hf
  unfold execOp
  simp only [ho, Instr.build, zeroValue, typeInfo, Sem.run_bind, run_program, h1, h4, Sem.run_pure, Result.andThen_ok, run_underlying hu.out, List.map_toArray, hparts, sizeOf, j1, j2, List.toList_toArray, hf]
theorem pv_slice_isnil {t e ty : TypeId} [hu : Und P t (.slice e)] {x y : Operand} {ad : Option Addr} {l c : Nat} (hx : ev g x = some (.slice ad l c)) (hy : ev g y = some (.slice none 0 0)) : PV P g (.binOp .eql t x y ty) (.bool ad.isNone) := by
  intro o a w m ho ha; unfold execOp
  have e1 : (Op.equal t (.slice ad l c) (.slice none 0 0)).run P w = .ok ad.isNone w := by
    show (Op.equalIn (9999 + 1) t _ _).run P w = _
    unfold Op.equalIn
    cases ad <;> simp only [Sem.run_bind, run_underlying hu.out, Result.andThen_ok, Sem.run_pure] <;> rfl
  have e2 : binOp .eql t (.slice ad l c) (.slice none 0 0) = (do pure (.bool (← Op.equal t (.slice ad l c) (.slice none 0 0)))) := rfl
  simp only [ho, ha.ev hx, ha.ev hy, eqGuard, e2, Sem.run_bind, e1, Result.andThen_ok, Sem.run_pure]
  simp only [Bool.not_true, Bool.false_eq_true, if_false, Sem.run_pure, Result.andThen_ok, e1]

theorem pv_quo_nn {t ty : TypeId} {x y : Operand} {i j : Int} (hx : ev g x = some (.int .i64 i)) (hy : ev g y = some (.int .i64 j)) (h0 : 0 ≤ i) (h1 : i ≤ 9223372036854775807) (hj : 1 ≤ j) : PV P g (.binOp .quo t x y ty) (.int .i64 (i / j)) := by
  have h := pv_quo (P := P) (t := t) (ty := ty) hx hy (by omega)
  rw [Int.tdiv_eq_ediv_of_nonneg h0] at h
  have a : 0 ≤ i / j := Int.ediv_nonneg h0 (by omega)
  have b : i / j ≤ i := Int.ediv_le_self j h0
  rwa [wrap_i64_in _ (by omega) (by omega)] at h
theorem pv_rem_nn {t ty : TypeId} {x y : Operand} {k : IntKind} {i j : Int} (hx : ev g x = some (.int k i)) (hy : ev g y = some (.int k j)) (h0 : 0 ≤ i) (hj : 1 ≤ j) : PV P g (.binOp .rem t x y ty) (.int k (i % j)) := by
  have h := pv_rem (P := P) (t := t) (ty := ty) hx hy (by omega)
  rwa [Int.tmod_eq_emod_of_nonneg h0] at h
theorem pv_shl {t ty : TypeId} {x y : Operand} {k k2 : IntKind} {i j : Int} (hx : ev g x = some (.int k i)) (hy : ev g y = some (.int k2 j)) (h0 : 0 ≤ j) : PV P g (.binOp .shl t x y ty) (.int k (k.wrap (i * 2 ^ (min j.toNat k.bits)))) := by
  intro o a w m ho ha
  have hn : ¬ j < 0 := by omega
  unfold execOp
  simp only [ho, ha.ev hx, ha.ev hy, eqGuard, binOp, Op.shift, hn, if_false]
  simp

/-! ### Slices of slices -/
def shiftA (ad : Option Addr) (l cap size : Nat) : Option Addr := if cap = l then ad else ad.map (·.add (l * size))
theorem pv_slice_l {t e : TypeId} [hu : Und P t (.slice e)] {sz by' : Nat} {z : Value} [hi : Inf P e sz by' z] {x y : Operand} {ad : Option Addr} {len cap l : Nat} {k : IntKind}
    (hx : ev g x = some (.slice ad len cap)) (hy : ev g y = some (.int k (l : Int))) (hl : l ≤ len) : PV P g (.slice t x (some y) none none) (.slice (shiftA ad l cap sz) (len - l) (cap - l)) := by
  intro o a w m ho ha
  obtain ⟨i, h1, h2, _⟩ := hi.out
  have hl' : (0 : Int) ≤ (l : Int) ∧ (l : Int) ≤ (len : Int) := by omega
  unfold execOp
  simp only [ho, ha.ev hx, Option.map_some, ha.ev hy, Option.map_none, Instr.sliceAt, Sem.run_bind, run_underlying hu.out, Result.andThen_ok, Instr.slice, Instr.sliceBounds, Instr.sliceBound, asIntOf, Sem.run_pure, hl', and_self, if_true, sizeOf, typeInfo, run_program, h1, h2,
    Int.toNat_natCast, shiftA]
theorem pv_slice_lh {t e : TypeId} [hu : Und P t (.slice e)] {sz by' : Nat} {z : Value} [hi : Inf P e sz by' z] {x y y2 : Operand} {ad : Option Addr} {len cap l h : Nat} {k k2 : IntKind}
    (hx : ev g x = some (.slice ad len cap)) (hy : ev g y = some (.int k (l : Int))) (hy2 : ev g y2 = some (.int k2 (h : Int))) (hl : l ≤ h) (hh : h ≤ cap) : PV P g (.slice t x (some y) (some y2) none) (.slice (shiftA ad l cap sz) (h - l) (cap - l)) := by
  intro o a w m ho ha
  obtain ⟨i, h1, h2, _⟩ := hi.out
  have hl' : (0 : Int) ≤ (l : Int) ∧ (l : Int) ≤ (h : Int) := by omega
  have hh' : (0 : Int) ≤ (h : Int) ∧ (h : Int) ≤ (cap : Int) := by omega
  unfold execOp
  simp only [ho, ha.ev hx, Option.map_some, ha.ev hy, ha.ev hy2, Option.map_none, Instr.sliceAt, Sem.run_bind, run_underlying hu.out, Result.andThen_ok, Instr.slice, Instr.sliceBounds, Instr.sliceBound, asIntOf, Sem.run_pure, hh', hl', and_self, if_true, sizeOf, typeInfo, run_program, h1, h2,
    Int.toNat_natCast, shiftA]
theorem pv_slice_lhm {t e : TypeId} [hu : Und P t (.slice e)] {sz by' : Nat} {z : Value} [hi : Inf P e sz by' z] {x y y2 y3 : Operand} {ad : Option Addr} {len cap l h q : Nat} {k k2 k3 : IntKind}
    (hx : ev g x = some (.slice ad len cap)) (hy : ev g y = some (.int k (l : Int))) (hy2 : ev g y2 = some (.int k2 (h : Int))) (hy3 : ev g y3 = some (.int k3 (q : Int))) (hl : l ≤ h) (hh : h ≤ q) (hq : q ≤ cap) :
    PV P g (.slice t x (some y) (some y2) (some y3)) (.slice (shiftA ad l q sz) (h - l) (q - l)) := by
  intro o a w m ho ha
  obtain ⟨i, h1, h2, _⟩ := hi.out
  have hl' : (0 : Int) ≤ (l : Int) ∧ (l : Int) ≤ (h : Int) := by omega
  have hh' : (0 : Int) ≤ (h : Int) ∧ (h : Int) ≤ (q : Int) := by omega
  have hq' : (0 : Int) ≤ (q : Int) ∧ (q : Int) ≤ (cap : Int) := by omega
  unfold execOp
  simp only [ho, ha.ev hx, Option.map_some, ha.ev hy, ha.ev hy2, ha.ev hy3, Option.map_none, Instr.sliceAt, Sem.run_bind, run_underlying hu.out, Result.andThen_ok, Instr.slice, Instr.sliceBounds, Instr.sliceBound, asIntOf, Sem.run_pure, hq', hh', hl', and_self, if_true, sizeOf, typeInfo, run_program, h1, h2,
    Int.toNat_natCast, shiftA]
/-- A slice cut at its head is read from there on. -/
theorem RdRow.drop {size : Nat} {ad : Option Addr} {len c : Nat} {xs : List (List Value)} (h : RdRow w0 L size (.slice ad len c) xs) {l : Nat} (hl : l ≤ len) (hc : len ≤ c) : RdRow w0 L size (.slice (shiftA ad l c size) (len - l) (c - l)) (xs.drop l) := by
  obtain ⟨rfl, h1, h2⟩ := h.at
  refine ⟨shiftA ad l c size, c - l, by rw [List.length_drop], fun x hx => h1 x (List.mem_of_mem_drop hx), fun i x hx => ?_⟩
  rw [List.getElem?_drop] at hx
  obtain ⟨b, off, rfl, hr⟩ := h2 (l + i) x hx
  have hi := (List.getElem?_eq_some_iff.1 hx).1
  refine ⟨b, off + l * size, ?_, fun j u hu => ?_⟩
  · unfold shiftA; rw [if_neg (by omega)]; simp [add_none]
  · have := hr j u hu
    rwa [Nat.add_mul, ← Nat.add_assoc] at this

theorem shiftA_some {b off l cap size : Nat} (h : cap ≠ l) : shiftA (some ⟨b, off, none⟩) l cap size = some ⟨b, off + l * size, none⟩ := by
  unfold shiftA; rw [if_neg h]; simp [add_none]
theorem rd_block {b size c : Nat} {xs : List (List Value)} {spare : List Value} {e : TypeId} {fz : Nat × Nat} {R : Hp} [hb : HasPt b L (.cells (xs.flatten ++ spare).toArray e fz) R] (hs : ∀ x ∈ xs, x.length = size) :
    RdRow w0 L size (.slice (some ⟨b, 0, none⟩) xs.length c) xs :=
  ⟨_, c, rfl, hs, fun i x hx => ⟨b, 0, rfl, fun j u hu => by rw [Nat.zero_add]; exact reads_pt (R := R) (row_get hs spare hx hu)⟩⟩
theorem isRow.nonempty {E size : Nat} {xs : List (List Value)} {v : Value} {h : Hp} (hr : isRow E size xs v h) (hne : xs ≠ []) :
    ∃ b cap spare, v = .slice (some ⟨b, 0, none⟩) xs.length cap ∧ h = pt b (.cells (xs.flatten ++ spare).toArray E (0, 0)) ∧ (∀ x ∈ xs, x.length = size) ∧ xs.length ≤ cap ∧ cap ≤ maxLen ∧ spare.length = (cap - xs.length) * size := by
  obtain ⟨hs, ⟨ad, _, e, _⟩ | ⟨b, cap, spare, e1, e2, e3, e4, e5⟩⟩ := hr
  · exact absurd e hne
  · exact ⟨b, cap, spare, e1, e2, hs, e3, e4, e5⟩
theorem isRow_block {E size : Nat} {xs : List (List Value)} {b cap : Nat} {spare : List Value} (h1 : ∀ x ∈ xs, x.length = size) (h2 : xs.length ≤ cap) (h3 : cap ≤ maxLen) (h4 : spare.length = (cap - xs.length) * size) :
    isRow E size xs (.slice (some ⟨b, 0, none⟩) xs.length cap) (pt b (.cells (xs.flatten ++ spare).toArray E (0, 0))) := ⟨h1, .inr ⟨b, cap, spare, rfl, rfl, h2, h3, h4⟩⟩
theorem row_get0 {size : Nat} {xs : List (List Value)} (h : ∀ x ∈ xs, x.length = size) (spare : List Value) {i j : Nat} {x : List Value} {u : Value} (hx : xs[i]? = some x) (hu : x[j]? = some u) :
    (xs.flatten ++ spare)[0 + i * size + j]? = some u := by rw [Nat.zero_add]; exact row_get h spare hx hu
theorem row_set0 {size : Nat} {xs : List (List Value)} (h : ∀ x ∈ xs, x.length = size) (spare : List Value) {i j : Nat} {x : List Value} (v : Value) (hx : xs[i]? = some x) (hj : j < size) :
    (xs.flatten ++ spare).set (0 + i * size + j) v = (xs.set i (x.set j v)).flatten ++ spare := by rw [Nat.zero_add]; exact row_set h spare v hx hj
theorem loads_row {t : TypeId} {d : TypeDesc} [hu : Und P t d] (hd : notAgg d = false) {sz by' : Nat} {z : Value} [hi : Inf P t sz by' z] {b i o size : Nat} {xs : List (List Value)} {x spare : List Value} {e : TypeId} {fz : Nat × Nat} {R : Hp}
    [hb : HasPt b L (.cells (xs.flatten ++ spare).toArray e fz) R] (hs : ∀ x ∈ xs, x.length = size) (hx : xs[i]? = some x) {vs : List Value} (hv : (x.drop o).take sz = vs) (hl : (vs.length == sz) = true) :
    Loads P w0 L t ⟨b, 0 + i * size + o, none⟩ (.agg vs.toArray) :=
  loads_aggR hd vs (by simpa using hl) fun j v hj => reads_pt (R := R) (by
    subst hv
    rw [List.getElem?_take] at hj
    split at hj
    · rw [List.getElem?_drop] at hj
      rw [Nat.add_assoc]; exact row_get0 hs spare hx hj
    · cases hj)
theorem loads_row1 {t : TypeId} {d : TypeDesc} [hu : Und P t d] (hd : notAgg d = true) {b i o size : Nat} {xs : List (List Value)} {x spare : List Value} {e : TypeId} {fz : Nat × Nat} {R : Hp}
    [hb : HasPt b L (.cells (xs.flatten ++ spare).toArray e fz) R] (hs : ∀ x ∈ xs, x.length = size) (hx : xs[i]? = some x) {u : Value} (hv : x[o]? = some u) :
    Loads P w0 L t ⟨b, 0 + i * size + o, none⟩ u := loads_scalar hd (reads_pt (R := R) (row_get0 hs spare hx hv))
/-! ### Append in place, clear -/
theorem ev_append_room {t e : TypeId} [hu : Und P t (.slice e)] {sz by' : Nat} {z : Value} [hi : Inf P e sz by' z] {x y : Operand} {v2 : Value} {xs ns : List (List Value)} {b cap nx : Nat} {spare : List Value} {R : Hp}
    (hx : ev g x = some (.slice (some ⟨b, 0, none⟩) nx cap)) (hnx : xs.length = nx) (hy : ev g y = some v2) (hxs : ∀ x ∈ xs, x.length = sz) (hn : RdRow w0 L sz v2 ns) (h1 : ∀ n ∈ ns, ∀ u ∈ n, u.oneCell' = true)
    [hf : HasPt b L (.cells (xs.flatten ++ spare).toArray e (0, 0)) R] (hroom : nx + ns.length ≤ cap) (hsp : ns.length * sz ≤ spare.length) :
    EV P w0 L g (.call { callee := .builtin .append, args := #[x, y], argTypes := #[t, t] }) fun u L' => u = .slice (some ⟨b, 0, none⟩) (nx + ns.length) cap ∧
      L' = pt b (.cells ((xs ++ ns).flatten ++ spare.drop (ns.length * sz)).toArray e (0, 0)) + R := by
  intro o a w m ho ha hst
  subst hnx
  obtain ⟨i, i1, i2, i3, i4⟩ := hi.out
  obtain ⟨ad2, c2, rfl, hn⟩ := hn
  have hfl := length_flat hn.1
  have hflx := length_flat hxs
  have run : execOp a.eval o = (do pure (.value (← Builtin.append_ #[t, t] o.type #[.slice (some ⟨b, 0, none⟩) xs.length cap, .slice ad2 ns.length c2]))) := by
    unfold execOp
    simp only [ho, resolve, invoke, builtin, ha.ev hx, ha.ev hy, List.map_toArray, List.map_cons, List.map_nil, pure_bind]
  have hst' : St w0 w (pt b (.cells (xs.flatten ++ spare).toArray e (0, 0)) + R) := by rw [hf.out] at hst; exact hst
  have hheap := hst'.sat.left.pt.2
  by_cases hm : ns = []
  · subst hm
    refine ⟨_, w, _, .inl ?_, ⟨rfl, rfl⟩, by simpa using hst'⟩
    rw [run]
    have e0 : (Builtin.firstCells i.size 0 (.slice ad2 0 c2)).run P w = .ok #[] w := by
      cases ad2 <;> simp [Builtin.firstCells, loadCells, loadCellsFrom]
    simp only [List.length_nil, Nat.add_zero] at hroom ⊢
    simp [Builtin.append_, run_underlying hu.out, sizeOf, typeInfo, i1, Builtin.lenOf, e0, storeCells, hroom]
  · have h1' : ∀ u ∈ ns.flatten, u.oneCell' = true := fun u hu => by
      obtain ⟨q, hq, hum⟩ := List.mem_flatten.1 hu
      exact h1 q hq u hum
    by_cases hz : ns.flatten = []
    · have hs0 : ns.length * sz = 0 := by rw [← hfl, hz]; rfl
      have hsz0 : sz = 0 := by
        rcases Nat.mul_eq_zero.1 hs0 with h | h
        · exact absurd (List.eq_nil_of_length_eq_zero h) hm
        · exact h
      refine ⟨_, w, _, .inl ?_, ⟨rfl, rfl⟩, by simpa [hs0, hz] using hst'⟩
      rw [run]
      have e0 : (Builtin.firstCells i.size ns.length (.slice ad2 ns.length c2)).run P w = .ok #[] w := by
        cases ad2 <;> simp [Builtin.firstCells, loadCells, loadCellsFrom, i2, hsz0]
      simp [Builtin.append_, run_underlying hu.out, sizeOf, typeInfo, i1, Builtin.lenOf, e0, storeCells, hroom]
    · obtain ⟨a2, rfl, hnews⟩ : ∃ a2, ad2 = some a2 ∧ ∀ j u, ns.flatten[j]? = some u → w.cell? (a2.add j) = some u := by
        cases hh : ns.flatten with
        | nil => exact absurd hh hz
        | cons u l =>
          obtain ⟨b2, o2, rfl, _⟩ := hn.flat (j := 0) (u := u) (by rw [hh]; rfl)
          refine ⟨_, rfl, fun j u' hu' => ?_⟩
          rw [← hh] at hu'
          obtain ⟨b3, o3, e3, hr⟩ := hn.flat hu'
          cases e3
          rw [add_none]; exact hr w hst
      have hfit : xs.length * i.size + ns.flatten.length ≤ (xs.flatten ++ spare).toArray.size := by
        simp only [List.size_toArray, List.length_append, hfl, hflx, i2]; omega
      have := run_append_room (P := P) w t o.type e i hu.out i1 b xs.length cap _ hheap a2 ns.length c2 ns.flatten (by rw [i2]; exact hfl) hnews h1' hroom hfit
      refine ⟨.slice (some ⟨b, 0, none⟩) (xs.length + ns.length) cap, w.setRow b ((xs.flatten ++ spare).toArray.toList.take (xs.length * i.size) ++ ns.flatten ++ (xs.flatten ++ spare).toArray.toList.drop (xs.length * i.size + ns.flatten.length)).toArray, _,
        .inl (by rw [run]; simp only [Sem.run_bind, this, Result.andThen_ok, Sem.run_pure]), ⟨rfl, rfl⟩, ?_⟩
      refine hst'.set ?_ (fun k hk => setRow_other w b k _ hk) (by simp) rfl rfl rfl
      rw [setRow_heap w b _ _ e (0, 0) hheap]
      congr 2
      rw [i2, ← hflx, List.toList_toArray, List.take_left, hfl, ← List.drop_drop, List.drop_left, List.flatten_append]
theorem zeroCells_eq (z : Array Value) (m : Nat) : (Builtin.zeroCells z m).toList = (List.replicate m z.toList).flatten := by
  have := zeros_eq z m z.size rfl
  unfold Builtin.zeroCells
  rw [this]
theorem ev_clear {t e : TypeId} [hu : Und P t (.slice e)] {sz by' : Nat} {z : Value} [hi : Inf P e sz by' z] {x : Operand} {b off m cap : Nat} {c : List Value} {R : Hp}
    (hx : ev g x = some (.slice (some ⟨b, off, none⟩) m cap)) [hf : HasPt b L (.cells c.toArray e (0, 0)) R] (hz : (z.cells.size == sz) = true) (h1 : z.cells.toList.all (·.oneCell') = true) (hc : off + m * sz ≤ c.length) :
    EV P w0 L g (.call { callee := .builtin .clear, args := #[x], argTypes := #[t] }) fun u L' => L' = pt b (.cells (spliceL off (List.replicate m z.cells.toList).flatten c).toArray e (0, 0)) + R := by
  intro o a w q ho ha hst
  obtain ⟨i, i1, i2, i3, i4⟩ := hi.out
  rw [hf.out] at hst
  have hzs : z.cells.size = sz := by simpa using hz
  have hlen : (List.replicate m z.cells.toList).flatten.length = m * sz := by simp [hzs]
  have hone : ∀ v ∈ (List.replicate m z.cells.toList).flatten, v.oneCell' = true := fun v hv => by
    obtain ⟨l, hl, hvl⟩ := List.mem_flatten.1 hv
    rw [List.eq_of_mem_replicate hl] at hvl
    exact List.all_eq_true.1 h1 v hvl
  obtain ⟨w', e1, e2⟩ := run_storeCells (P := P) (off := off) (List.replicate m z.cells.toList).flatten 0 c w hst hone (by rw [hlen]; omega)
  refine ⟨.tuple #[], w', _, .inl ?_, rfl, e2⟩
  unfold execOp
  simp only [ho, resolve, invoke, builtin, ha.ev hx, List.map_toArray, List.map_cons, List.map_nil, pure_bind, Sem.run_bind]
  have key : (Builtin.clear_ #[t] o.type #[.slice (some ⟨b, off, none⟩) m cap]).run P w = .ok (.tuple #[]) w' := by
    unfold Builtin.clear_
    cases m with
    | zero =>
      simp only [List.replicate_zero, List.flatten_nil] at e1
      have : w' = w := by
        have h2 : (storeCells ⟨b, off, none⟩ [] 0).run P w = .ok () w := by simp [storeCells]
        rw [h2] at e1
        injection e1 with _ h3
        exact h3.symm
      subst this
      simp [run_underlying hu.out]
    | succ m =>
      simp [run_underlying hu.out, zeroValue, typeInfo, i1, i4, zeroCells_eq, e1]
  simp only [key, Result.andThen_ok, Sem.run_pure]
end
end Sl
end Go.Proofs.Ytdbmmnpnhpiecaa
