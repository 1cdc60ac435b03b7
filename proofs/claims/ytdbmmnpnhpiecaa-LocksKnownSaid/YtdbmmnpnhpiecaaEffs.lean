/-
  Operations that make or write memory: boxes, rows, stores, append; calls. No program in sight.
-/
import Derived.Test.YtdbmmnpnhpiecaaVals
namespace Go.Proofs.Ytdbmmnpnhpiecaa
open Go Go.RowKit
namespace Sl
set_option linter.unusedVariables false
set_option linter.unusedSimpArgs false
section
variable {P : Program} {w0 : World} {L : Hp} {g : Env}
theorem run_newVar (t : TypeId) (v : Value) (w : World) : (newVar t v).run P w = .ok ⟨w.heap.size, 0, none⟩ (w.alloc (.cells v.cells t)) := by
  rfl
theorem ev_box {t : TypeId} {x : Operand} {v : Value} (hx : ev g x = some v) :
    EV P w0 L g (.box t x) fun u L' => ∃ b, u = .pointer (some ⟨b, 0, none⟩) ∧ L' = pt b (.cells v.cells t) + L := by
  intro o a w n ho ha hst
  refine ⟨.pointer (some ⟨w.heap.size, 0, none⟩), w.alloc (.cells v.cells t), _, .inl ?_, ⟨_, rfl, rfl⟩, hst.alloc _⟩
  unfold execOp
  simp only [ho, ha.ev hx, Instr.box, Sem.run_bind, run_newVar, Result.andThen_ok, Sem.run_pure]
theorem ev_alloc {t : TypeId} {sz by' : Nat} {z : Value} [hi : Inf P t sz by' z] :
    EV P w0 L g (.alloc t) fun u L' => ∃ b, u = .pointer (some ⟨b, 0, none⟩) ∧ L' = pt b (.cells z.cells t) + L := by
  intro o a w n ho ha hst
  obtain ⟨i, h1, h2, h3, h4⟩ := hi.out
  refine ⟨.pointer (some ⟨w.heap.size, 0, none⟩), w.alloc (.cells z.cells t), _, .inl ?_, ⟨_, rfl, rfl⟩, hst.alloc _⟩
  unfold execOp
  simp only [ho, Instr.alloc, zeroValue, typeInfo, Sem.run_bind, run_program, h1, h4, run_newVar, Result.andThen_ok, Sem.run_pure]
theorem map_pairs (f : Operand → Value) : ∀ (parts : List (Nat × Operand)), parts.map (fun (p : Nat × Operand) => (p.1, f p.2)) = (parts.map (·.1)).zip ((parts.map (·.2)).map f)
  | [] => rfl
  | p :: l => by simp only [List.map_cons, List.zip_cons_cons, map_pairs f l]
theorem ev_buildSlice {t e : TypeId} [hu : Und P t (.slice e)] {sz by' : Nat} {z : Value} [hi : Inf P e sz by' z] {len : Nat} {parts : List (Nat × Operand)} {vs cells : List Value}
    (hp : evs g (parts.map (·.2)) = some vs) (hlim : decide (len * sz ≤ 16777216) = true) (hz : (z.cells.size == sz) = true)
    (hfill' : fillL (fun i => some (i * sz, sz)) (List.replicate len z.cells.toList).flatten ((parts.map (·.1)).zip vs) = some cells) :
    EV P w0 L g (.buildSlice t len parts.toArray) fun u L' => ∃ b, u = .slice (some ⟨b, 0, none⟩) len len ∧ L' = pt b (.cells cells.toArray e (0, 0)) + L := by
  intro o a w n ho ha hst
  obtain ⟨i, h1, h2, h3, h4⟩ := hi.out
  have hfill := fill_eq _ _ _ _ hfill'
  rw [← zeros_eq z.cells len sz (by simpa using hz)] at hfill
  refine ⟨.slice (some ⟨w.heap.size, 0, none⟩) len len, w.alloc (.cells cells.toArray e), _, .inl ?_, ⟨_, rfl, rfl⟩, hst.alloc _⟩
  have hparts : parts.map (fun (p : Nat × Operand) => (p.1, a.eval p.2)) = (parts.map (·.1)).zip vs := by
    have := ha.evs hp
    rw [map_pairs, this]
  have hlim' : ¬ (len * sz > 2 ^ 24) := by have := of_decide_eq_true hlim; omega
  have hnew : ∀ c : Array Value, (newRow e c).run P w = .ok ⟨w.heap.size, 0, none⟩ (w.alloc (.cells c e)) := fun _ => rfl
  unfold execOp
  simp only [ho, Instr.buildSlice, Sem.run_bind, run_underlying hu.out, Result.andThen_ok, sizeOf, typeInfo, run_program, h1, Sem.run_pure, h2, hlim', if_false, List.map_toArray, hparts, List.toList_toArray]
  by_cases h0 : len * sz = 0
  · have hf' : Instr.fill (fun i => some (i * sz, sz)) ((Array.range (len * sz)).map ((#[] : Array Value)[· % (#[] : Array Value).size]!)) ((parts.map (·.1)).zip vs) = some cells.toArray := by
      have er : Array.range 0 = #[] := rfl
      rw [← hfill, h0, er]; simp only [List.map_nil, Array.map_empty]
    simp only [h0, if_true, Sem.run_pure, Result.andThen_ok, Sem.run_bind]
    rw [h0] at hf'
    rw [hf']
    simp only [hnew, Sem.run_bind, Result.andThen_ok, Sem.run_pure]
  · simp only [h0, if_false, zeroValue, typeInfo, Sem.run_bind, run_program, h1, h4, Sem.run_pure, Result.andThen_ok, hfill, hnew]
theorem run_storeVar1 {t : TypeId} {sz by' : Nat} {z : Value} [hi : Inf P t sz by' z] (hsz : (sz == 1) = true) {b off : Nat} {c : Array Value} {e : TypeId} {v u : Value} (hv : v.oneCell' = true) {w : World}
    (hb : w.heap[b]? = some (.cells c e (0, 0))) (hc : c[off]? = some u) :
    (storeVar t ⟨b, off, none⟩ v).run P w = .ok () (w.setCell ⟨b, off, none⟩ v) := by
  obtain ⟨i, h1, h2, h3, h4⟩ := hi.out
  have hcs : v.cells = #[v] := by cases v <;> first | rfl | simp [Value.oneCell'] at hv
  have hsz' : sz = 1 := by simpa using hsz
  have hcell : w.cell? ⟨b, off, none⟩ = some u := by simp [World.cell?, hb, hc]
  have hfr : w.frozen? ⟨b, off, none⟩ = false := by simp [World.frozen?, hb]
  have hadd : (⟨b, off, none⟩ : Addr).add 0 = ⟨b, off, none⟩ := rfl
  simp [storeVar, sizeOf, typeInfo, h1, h2, hsz', hcs, storeCells, hadd, run_store, hv, hcell, hfr]
theorem St.store {w : World} {b off : Nat} {c : List Value} {e : TypeId} {R : Hp} (h : St w0 w (pt b (.cells c.toArray e (0, 0)) + R)) (v : Value) :
    St w0 (w.setCell ⟨b, off, none⟩ v) (pt b (.cells (c.set off v).toArray e (0, 0)) + R) := by
  have hb := h.sat.left.pt.2
  refine h.set ?_ (fun k hk => Below.heap_setCell _ _ _ _ hk) (by simp [World.setCell]) rfl rfl rfl
  simp only [World.setCell, Array.getElem?_modify, if_true, hb]
  simp
theorem ev_store {t : TypeId} {sz by' : Nat} {z : Value} [hi : Inf P t sz by' z] {x y : Operand} {b off : Nat} {c : List Value} {e : TypeId} {v u : Value} {R : Hp}
    (hx : ev g x = some (.pointer (some ⟨b, off, none⟩))) (hy : ev g y = some v) (hsz : (sz == 1) = true) (hv : v.oneCell' = true) [hb : HasPt b L (.cells c.toArray e (0, 0)) R] (hc : c[off]? = some u) {c' : List Value} (hc' : c.set off v = c') :
    EV P w0 L g (.store t x y) fun u L' => L' = pt b (.cells c'.toArray e (0, 0)) + R := by
  intro o a w n ho ha hst
  subst hc'
  have hhb := hst.at hb
  refine ⟨undef, w.setCell ⟨b, off, none⟩ v, _, .inr ⟨?_, rfl⟩, rfl, St.store (by rw [hb.out] at hst; exact hst) v⟩
  unfold execOp
  simp only [ho, ha.ev hx, ha.ev hy, Instr.storeAt, Instr.sureAddr, pure_bind, Sem.run_bind, run_storeVar1 hsz hv hhb (by simpa using hc), Result.andThen_ok, Sem.run_pure]
theorem cv_fun {f : Operand} {xs : List Operand} {ts : Array TypeId} {k : FuncId} {first cap : Array Value} {vs args : List Value} [hf : Fun P k]
    (h : ev g f = some (.func (.func k) first cap)) (hxs : evs g xs = some vs) (he : first.toList ++ vs ++ cap.toList = args) :
    CV P g (.call { callee := .value f, args := xs.toArray, argTypes := ts }) k args := by
  intro o a w n ho ha
  obtain ⟨fn, h1, h2, h3⟩ := hf.out
  subst he
  unfold execOp
  have hargs : (xs.toArray.map a.eval) = vs.toArray := by rw [List.map_toArray, ha.evs hxs]
  simp only [ho, resolve, ha.ev h, hargs, Deferred.ofValue, pure_bind, invoke, callFunc, Sem.run_bind, run_program, Result.andThen_ok, h1, h2, h3, Bool.false_eq_true, if_false, Sem.run_pure]
  congr 2
  simp
end

section
variable {P : Program} {w0 : World} {L : Hp} {g : Env}
theorem run_askRoom (n : Nat) (w : World) : (askRoom n).run P w = .ok () w := by unfold askRoom; split <;> rfl
theorem ev_makeSlice {t e : TypeId} [hu : Und P t (.slice e)] {sz by' : Nat} {z : Value} [hi : Inf P e sz by' z] {x y : Operand} {n : Nat}
    (hx : ev g x = some (.int .i64 (n : Int))) (hy : ev g y = some (.int .i64 (n : Int))) (hz : (z.cells.size == sz) = true) (hb : by' * n ≤ 281474976710656) (hn : n ≤ 9223372036854775807) :
    EV P w0 L g (.makeSlice t x y) fun u L' => ∃ b, u = .slice (some ⟨b, 0, none⟩) n n ∧ L' = pt b (.cells (List.replicate n z.cells.toList).flatten.toArray e (0, 0)) + L := by
  intro o a w n' ho ha hst
  obtain ⟨i, h1, h2, h3, h4⟩ := hi.out
  refine ⟨.slice (some ⟨w.heap.size, 0, none⟩) n n, w.alloc (.cells (List.replicate n z.cells.toList).flatten.toArray e), _, .inl ?_, ⟨_, rfl, rfl⟩, hst.alloc _⟩
  have hw : IntKind.i64.wrap (n : Int) = (n : Int) := IntWalk.i64_in _ ⟨by omega, by omega⟩
  have hzs : z.cells.size = sz := by simpa using hz
  have hnew : ∀ c : Array Value, (newRow e c).run P w = .ok ⟨w.heap.size, 0, none⟩ (w.alloc (.cells c e)) := fun _ => rfl
  have hbi : ¬ ((i.bytes : Int) * (n : Int) > 2 ^ 48) := by
    rw [h3]
    have : ((by' * n : Nat) : Int) ≤ 281474976710656 := by omega
    rw [Int.natCast_mul] at this
    omega
  have hcells : ∀ zz : Array Value, (n * i.size ≠ 0 → zz = z.cells) → ((Array.range (n * i.size)).map (zz[· % zz.size]!)) = (List.replicate n z.cells.toList).flatten.toArray := by
    intro zz hzz
    by_cases h0 : n * i.size = 0
    · rw [h0]
      have : (List.replicate n z.cells.toList).flatten = [] := by
        apply List.eq_nil_of_length_eq_zero
        simp [hzs, ← h2, h0]
      rw [this]; have er : Array.range 0 = #[] := rfl
      rw [er]; simp
    · rw [hzz h0, ← zeros_eq z.cells n i.size (by rw [hzs, h2])]
  unfold execOp
  simp only [ho, ha.ev hx, ha.ev hy, Instr.makeSlice, Sem.run_bind, run_underlying hu.out, Result.andThen_ok, asInt, asIntOf, Sem.run_pure, typeInfo, run_program, h1, hw]
  have hc1 : ((n : Int) < 0) = False := by simp
  have hc2 : ((n : Int) > (n : Int)) = False := by simp
  simp only [hc1, hc2, hbi, decide_false, Bool.or_self, Bool.false_eq_true, if_false, Sem.run_bind, Int.toNat_natCast, run_askRoom, sizeOf, typeInfo, run_program, h1, Sem.run_pure, Result.andThen_ok]
  by_cases h0 : n * i.size = 0
  · simp only [h0, if_true, Sem.run_pure, Result.andThen_ok, Sem.run_bind]
    have := hcells #[] (fun h => absurd h0 h)
    rw [h0] at this
    simp only [this, hnew, Result.andThen_ok, Sem.run_pure]
  · have := hcells z.cells (fun _ => rfl)
    simp only [h0, if_false, zeroValue, typeInfo, Sem.run_bind, run_program, h1, h4, Sem.run_pure, Result.andThen_ok, this, hnew]
theorem pv_slice_h {t e : TypeId} [hu : Und P t (.slice e)] {sz by' : Nat} {z : Value} [hi : Inf P e sz by' z] {x y : Operand} {ad : Option Addr} {len cap m : Nat} {k : IntKind}
    (hx : ev g x = some (.slice ad len cap)) (hy : ev g y = some (.int k (m : Int))) (hm : m ≤ cap) : PV P g (.slice t x none (some y) none) (.slice ad m cap) := by
  intro o a w n ho ha
  obtain ⟨i, h1, _⟩ := hi.out
  have hm' : (0 : Int) ≤ (m : Int) ∧ (m : Int) ≤ (cap : Int) := by omega
  have hadd : ∀ q : Addr, q.add 0 = q := fun q => rfl
  unfold execOp
  simp only [ho, ha.ev hx, Option.map_some, ha.ev hy, Option.map_none, Instr.sliceAt, Sem.run_bind, run_underlying hu.out, Result.andThen_ok, Instr.slice, Instr.sliceBounds, Instr.sliceBound, asIntOf, Sem.run_pure, hm', and_self, if_true, sizeOf, typeInfo, run_program, h1,
    Int.toNat_natCast, Nat.zero_mul, Nat.sub_zero, hadd]
  cases ad <;> simp
end

/-! ### The rules that the walk tries -/
section
variable {P : Program} {n : Nat} {w0 : World} {Q : Post} {g : Env} {L : Hp} {ops : Array Oper} {rest : List Oper} {dst : Option Nat} {ty : TypeId} {pos : String} {af : Array Edge} {gd : Option (Nat × Bool)}
  {eff : List Nat} {W : Watched} {listed : Array Bool} {s : List Nat} {i : Nat}
theorem L_of {op : Op} {v : Value} (h : pureV g op = some v) (hw : wantedE ops g gd = some true) (hd : dst.all (· < n) = true) (hk : HoldL P n w0 ops rest Q (putE g dst v) L) :
    HoldL P n w0 ops (⟨dst, op, ty, pos, af, gd⟩ :: rest) Q g L := L_pure hw hd (pv_of h) hk
theorem L_field {s : TypeId} {fs : Array Field} [hu : Und P s (.struct fs)] {x : Operand} {b off k : Nat} {nm tg pk : String} {tf : TypeId} {fo bo : Nat} {em : Bool} {sz by' : Nat} {z : Value}
    (hx : ev g x = some (.pointer (some ⟨b, off, none⟩))) (hf : fs[k]? = some ⟨nm, tf, fo, em, tg, pk, bo⟩) [hi : Inf P tf sz by' z] (hsz : (sz == 0) = false)
    (hw : wantedE ops g gd = some true) (hd : dst.all (· < n) = true) (hk : HoldL P n w0 ops rest Q (putE g dst (.pointer (some ⟨b, off + fo, none⟩))) L) :
    HoldL P n w0 ops (⟨dst, .fieldAddr s x k, ty, pos, af, gd⟩ :: rest) Q g L := L_pure hw hd (pv_fieldAddr hx hf hsz) hk
theorem L_len {t e : TypeId} [hu : Und P t (.slice e)] {x : Operand} {ad : Option Addr} {len cap : Nat} (hx : ev g x = some (.slice ad len cap))
    (hw : wantedE ops g gd = some true) (hd : dst.all (· < n) = true) (hk : HoldL P n w0 ops rest Q (putE g dst (.int .i64 len)) L) :
    HoldL P n w0 ops (⟨dst, .call { callee := .builtin .len, args := #[x], argTypes := #[t] }, ty, pos, af, gd⟩ :: rest) Q g L := L_pure hw hd (pv_len hx) hk
theorem L_add {t tb : TypeId} {x y : Operand} {a b : Int} (hx : ev g x = some (.int .i64 a)) (hy : ev g y = some (.int .i64 b)) (h0 : -9223372036854775808 ≤ a + b) (h1 : a + b ≤ 9223372036854775807)
    (hw : wantedE ops g gd = some true) (hd : dst.all (· < n) = true) (hk : HoldL P n w0 ops rest Q (putE g dst (.int .i64 (a + b))) L) :
    HoldL P n w0 ops (⟨dst, .binOp .add t x y tb, ty, pos, af, gd⟩ :: rest) Q g L := L_pure hw hd (pv_add hx hy h0 h1) hk
theorem L_sub {t tb : TypeId} {x y : Operand} {a b : Int} (hx : ev g x = some (.int .i64 a)) (hy : ev g y = some (.int .i64 b)) (h0 : -9223372036854775808 ≤ a - b) (h1 : a - b ≤ 9223372036854775807)
    (hw : wantedE ops g gd = some true) (hd : dst.all (· < n) = true) (hk : HoldL P n w0 ops rest Q (putE g dst (.int .i64 (a - b))) L) :
    HoldL P n w0 ops (⟨dst, .binOp .sub t x y tb, ty, pos, af, gd⟩ :: rest) Q g L := L_pure hw hd (pv_sub hx hy h0 h1) hk
theorem L_build {t : TypeId} {pl : List (Nat × Nat)} [hpl : Plc P t pl] {sz by' : Nat} {z : Value} [hi : Inf P t sz by' z] {parts : List (Nat × Operand)} {vs cells : List Value}
    (hp : evs g (parts.map (·.2)) = some vs) (hfill : fillL (fun i => pl[i]?) z.cells.toList ((parts.map (·.1)).zip vs) = some cells)
    (hw : wantedE ops g gd = some true) (hd : dst.all (· < n) = true) (hk : HoldL P n w0 ops rest Q (putE g dst (.agg cells.toArray)) L) :
    HoldL P n w0 ops (⟨dst, .build t parts.toArray, ty, pos, af, gd⟩ :: rest) Q g L := L_pure hw hd (pv_build hp hfill) hk
theorem L_ld {t : TypeId} {d : TypeDesc} [hu : Und P t d] {x : Operand} {b off : Nat} {c : List Value} {e : TypeId} {fz : Nat × Nat} {R : Hp} {v : Value}
    (hx : ev g x = some (.pointer (some ⟨b, off, none⟩))) [hb : HasPt b L (.cells c.toArray e fz) R] (hc : c[off]? = some v) (hn : notAgg d = true)
    (hw : wantedE ops g gd = some true) (hd : dst.all (· < n) = true) (hk : HoldL P n w0 ops rest Q (putE g dst v) L) :
    HoldL P n w0 ops (⟨dst, .load t x, ty, pos, af, gd⟩ :: rest) Q g L := L_load hw hd (lv_load hx) (loads_scalar hn (reads_pt hc)) hk
theorem L_st {t : TypeId} {sz by' : Nat} {z : Value} [hi : Inf P t sz by' z] {x y : Operand} {b off : Nat} {c : List Value} {e : TypeId} {v u : Value} {R : Hp}
    (hx : ev g x = some (.pointer (some ⟨b, off, none⟩))) (hy : ev g y = some v) [hb : HasPt b L (.cells c.toArray e (0, 0)) R] (hc : c[off]? = some u) {c' : List Value} (hc' : c.set off v = c') (hsz : (sz == 1) = true) (hv : v.oneCell' = true)
    (hw : wantedE ops g gd = some true) (hk : HoldL P n w0 ops rest Q g (pt b (.cells c'.toArray e (0, 0)) + R)) :
    HoldL P n w0 ops (⟨none, .store t x y, ty, pos, af, gd⟩ :: rest) Q g L := L_eff hw rfl (ev_store hx hy hsz hv hc hc') (by rintro _ _ rfl; exact hk)
theorem L_box {t : TypeId} {x : Operand} {v : Value} (hx : ev g x = some v) {c : List Value} (hc : v.cells.toList = c) (hw : wantedE ops g gd = some true) (hd : dst.all (· < n) = true)
    (hk : ∀ b, HoldL P n w0 ops rest Q (putE g dst (.pointer (some ⟨b, 0, none⟩))) (pt b (.cells c.toArray t (0, 0)) + L)) :
    HoldL P n w0 ops (⟨dst, .box t x, ty, pos, af, gd⟩ :: rest) Q g L := L_eff hw hd (ev_box hx) (by rintro _ _ ⟨b, rfl, rfl⟩; subst hc; simpa using hk b)
theorem L_alloc {t : TypeId} {sz by' : Nat} {z : Value} [hi : Inf P t sz by' z] {c : List Value} (hc : z.cells.toList = c) (hw : wantedE ops g gd = some true) (hd : dst.all (· < n) = true)
    (hk : ∀ b, HoldL P n w0 ops rest Q (putE g dst (.pointer (some ⟨b, 0, none⟩))) (pt b (.cells c.toArray t (0, 0)) + L)) :
    HoldL P n w0 ops (⟨dst, .alloc t, ty, pos, af, gd⟩ :: rest) Q g L := L_eff hw hd ev_alloc (by rintro _ _ ⟨b, rfl, rfl⟩; subst hc; simpa using hk b)
theorem W_of {op : Op} {v : Value} (hi : ops[i]? = some ⟨dst, op, ty, pos, af, gd⟩) (h : pureV g op = some v) (heff : eff.contains i = false) (hw : wantedE ops g gd = some true) (hd : dst.all (· < n) = true)
    (hk : HoldW P n w0 ops eff W (listed.setIfInBounds i true) s Q (putE g dst v) L) : HoldW P n w0 ops eff W listed (i :: s) Q g L := W_pure hi heff hw hd (pv_of h) hk
end

/-! ### Rows: slices that own their array -/
/-- v is a slice whose elements' cells are xs; h is its array, alone (nothing, where there is no room). -/
def isRow (E size : Nat) (xs : List (List Value)) (v : Value) (h : Hp) : Prop :=
  (∀ x ∈ xs, x.length = size) ∧
  ((∃ ad, v = .slice ad 0 0 ∧ xs = [] ∧ h = 0) ∨
   (∃ b cap spare, v = .slice (some ⟨b, 0, none⟩) xs.length cap ∧ h = pt b (.cells (xs.flatten ++ spare).toArray E (0, 0)) ∧ xs.length ≤ cap ∧ cap ≤ maxLen ∧ spare.length = (cap - xs.length) * size))
/-- From ad on, the cells of xs may be read, each of so many cells. -/
def RdAt (w0 : World) (L : Hp) (size : Nat) (ad : Option Addr) (xs : List (List Value)) : Prop :=
  (∀ x ∈ xs, x.length = size) ∧ ∀ i x, xs[i]? = some x → ∃ b off, ad = some ⟨b, off, none⟩ ∧ ∀ j u, x[j]? = some u → Reads w0 L ⟨b, off + i * size + j, none⟩ u
/-- v is a slice that may be read: its elements' cells are xs. -/
def RdRow (w0 : World) (L : Hp) (size : Nat) (v : Value) (xs : List (List Value)) : Prop :=
  ∃ ad c, v = .slice ad xs.length c ∧ RdAt w0 L size ad xs
theorem isRow.shape {E size : Nat} {xs : List (List Value)} {v : Value} {h : Hp} (hr : isRow E size xs v h) : ∃ ad c, v = .slice ad xs.length c := by
  obtain ⟨_, ⟨ad, rfl, rfl, rfl⟩ | ⟨b, cap, spare, rfl, rfl, _⟩⟩ := hr
  · exact ⟨ad, 0, rfl⟩
  · exact ⟨_, cap, rfl⟩
theorem RdRow.shape {w0 : World} {L : Hp} {size : Nat} {v : Value} {xs : List (List Value)} (h : RdRow w0 L size v xs) : ∃ ad c, v = .slice ad xs.length c := let ⟨ad, c, e, _⟩ := h; ⟨ad, c, e⟩
theorem RdRow.at {w0 : World} {L : Hp} {size : Nat} {ad : Option Addr} {n c : Nat} {xs : List (List Value)} (h : RdRow w0 L size (.slice ad n c) xs) : n = xs.length ∧ RdAt w0 L size ad xs := by
  obtain ⟨ad', c', e, hat⟩ := h
  simp only [Value.slice.injEq] at e
  obtain ⟨rfl, rfl, rfl⟩ := e
  exact ⟨rfl, hat⟩
theorem length_flat {size : Nat} : ∀ {xs : List (List Value)}, (∀ x ∈ xs, x.length = size) → xs.flatten.length = xs.length * size := by
  intro xs
  induction xs with
  | nil => intro _; simp
  | cons x xs ih => intro h; simp only [List.flatten_cons, List.length_append, List.length_cons, Nat.succ_mul, ih (fun y hy => h y (by simp [hy])), h x (by simp)]; omega
theorem flat_at {size : Nat} : ∀ {xs : List (List Value)}, (∀ x ∈ xs, x.length = size) → ∀ {i j : Nat} {x : List Value} {u : Value}, xs[i]? = some x → x[j]? = some u → xs.flatten[i * size + j]? = some u := by
  intro xs
  induction xs with
  | nil => intro _ i j x u h; simp at h
  | cons y xs ih =>
    intro h i j x u hx hu
    have hy := h y (by simp)
    cases i with
    | zero =>
      simp only [List.getElem?_cons_zero, Option.some.injEq] at hx; subst hx
      have := (List.getElem?_eq_some_iff.1 hu).1
      simp only [Nat.zero_mul, Nat.zero_add, List.flatten_cons]
      rw [List.getElem?_append_left this]; exact hu
    | succ i =>
      simp only [List.getElem?_cons_succ] at hx
      have := ih (fun z hz => h z (by simp [hz])) hx hu
      simp only [List.flatten_cons, Nat.succ_mul]
      rw [List.getElem?_append_right (by omega), show i * size + size + j - y.length = i * size + j by omega]
      exact this
theorem flat_inv {size : Nat} : ∀ {xs : List (List Value)}, (∀ x ∈ xs, x.length = size) → ∀ {j : Nat} {u : Value}, xs.flatten[j]? = some u → ∃ i r x, xs[i]? = some x ∧ x[r]? = some u ∧ j = i * size + r := by
  intro xs
  induction xs with
  | nil => intro _ j u h; simp at h
  | cons y xs ih =>
    intro h j u hu
    have hy := h y (by simp)
    simp only [List.flatten_cons] at hu
    by_cases hj : j < y.length
    · rw [List.getElem?_append_left hj] at hu
      exact ⟨0, j, y, rfl, hu, by omega⟩
    · rw [List.getElem?_append_right (by omega)] at hu
      obtain ⟨i, r, x, h1, h2, h3⟩ := ih (fun z hz => h z (by simp [hz])) hu
      exact ⟨i + 1, r, x, by simpa using h1, h2, by rw [Nat.succ_mul]; omega⟩
theorem RdAt.flat {w0 : World} {L : Hp} {size : Nat} {ad : Option Addr} {xs : List (List Value)} (h : RdAt w0 L size ad xs) {j : Nat} {u : Value} (hu : xs.flatten[j]? = some u) : ∃ b off, ad = some ⟨b, off, none⟩ ∧ Reads w0 L ⟨b, off + j, none⟩ u := by
  obtain ⟨i, r, x, h1, h2, rfl⟩ := flat_inv h.1 hu
  obtain ⟨b, off, rfl, h3⟩ := h.2 i x h1
  exact ⟨b, off, rfl, by have := h3 r u h2; rwa [Nat.add_assoc] at this⟩
theorem add_none (b off j : Nat) : (⟨b, off, none⟩ : Addr).add j = ⟨b, off + j, none⟩ := by unfold Addr.add; split <;> simp_all
theorem flat_set {size : Nat} : ∀ {xs : List (List Value)}, (∀ x ∈ xs, x.length = size) → ∀ {i j : Nat} {x : List Value} (v : Value), xs[i]? = some x → j < size → xs.flatten.set (i * size + j) v = (xs.set i (x.set j v)).flatten := by
  intro xs
  induction xs with
  | nil => intro _ i j x v h; simp at h
  | cons y xs ih =>
    intro h i j x v hx hj
    have hy := h y (by simp)
    cases i with
    | zero =>
      simp only [List.getElem?_cons_zero, Option.some.injEq] at hx; subst hx
      simp only [Nat.zero_mul, Nat.zero_add, List.flatten_cons, List.set_cons_zero]
      rw [List.set_append_left _ _ (by omega)]
    | succ i =>
      simp only [List.getElem?_cons_succ] at hx
      have := ih (fun z hz => h z (by simp [hz])) v hx hj
      simp only [List.flatten_cons, Nat.succ_mul, List.set_cons_succ]
      rw [List.set_append_right _ _ (by omega), show i * size + size + j - y.length = i * size + j by omega, this]
theorem row_set {size : Nat} {xs : List (List Value)} (h : ∀ x ∈ xs, x.length = size) (spare : List Value) {i j : Nat} {x : List Value} (v : Value) (hx : xs[i]? = some x) (hj : j < size) :
    (xs.flatten ++ spare).set (i * size + j) v = (xs.set i (x.set j v)).flatten ++ spare := by
  have hi := (List.getElem?_eq_some_iff.1 hx).1
  have hl := length_flat h
  have : i * size + j < xs.flatten.length := by
    rw [hl]
    have : (i + 1) * size ≤ xs.length * size := Nat.mul_le_mul_right _ hi
    rw [Nat.succ_mul] at this
    omega
  rw [List.set_append_left _ _ this, flat_set h v hx hj]
theorem row_get {size : Nat} {xs : List (List Value)} (h : ∀ x ∈ xs, x.length = size) (spare : List Value) {i j : Nat} {x : List Value} {u : Value} (hx : xs[i]? = some x) (hu : x[j]? = some u) :
    (xs.flatten ++ spare)[i * size + j]? = some u := by
  have hfl := flat_at h hx hu
  rw [List.getElem?_append_left (List.getElem?_eq_some_iff.1 hfl).1]; exact hfl
theorem RdRow.take {w0 : World} {L : Hp} {size : Nat} {ad : Option Addr} {n c : Nat} {xs : List (List Value)} (h : RdRow w0 L size (.slice ad n c) xs) {m : Nat} (hm : m ≤ xs.length) : RdRow w0 L size (.slice ad m c) (xs.take m) := by
  obtain ⟨rfl, h1, h2⟩ := h.at
  refine ⟨ad, c, by simp [hm], fun x hx => h1 x (List.mem_of_mem_take hx), fun i x hx => ?_⟩
  rw [List.getElem?_take] at hx
  split at hx
  · exact h2 i x hx
  · cases hx
theorem isRow.rd {E size : Nat} {xs : List (List Value)} {v : Value} {h : Hp} {w0 : World} {L R : Hp} (hr : isRow E size xs v h) [hf : FrameI h L R] : RdRow w0 L size v xs := by
  obtain ⟨h1, ⟨ad, rfl, rfl, rfl⟩ | ⟨b, cap, spare, rfl, rfl, h2, h3, h4⟩⟩ := hr
  · exact ⟨ad, 0, rfl, h1, fun j u hu => by simp at hu⟩
  · refine ⟨_, cap, rfl, h1, fun i x hx => ⟨b, 0, rfl, fun j u hu => ?_⟩⟩
    have hfl := flat_at h1 hx hu
    refine Reads.frame (X := pt b (.cells (xs.flatten ++ spare).toArray E (0, 0))) (R := R) (reads_pt ?_)
    have := (List.getElem?_eq_some_iff.1 hfl).1
    rw [Nat.zero_add, List.getElem?_append_left this]; exact hfl
theorem RdAt.frame {w0 : World} {X L R : Hp} [hf : FrameI X L R] {size : Nat} {ad : Option Addr} {xs : List (List Value)} (h : RdAt w0 X size ad xs) : RdAt w0 L size ad xs :=
  ⟨h.1, fun i x hx => let ⟨b, off, e, hr⟩ := h.2 i x hx; ⟨b, off, e, fun j u hu => (hr j u hu).frame (R := R)⟩⟩
theorem RdRow.frame {w0 : World} {X L R : Hp} [hf : FrameI X L R] {size : Nat} {v : Value} {xs : List (List Value)} (h : RdRow w0 X size v xs) : RdRow w0 L size v xs :=
  let ⟨ad, c, e, h⟩ := h; ⟨ad, c, e, h.frame (R := R)⟩
section
variable {P : Program} {w0 : World} {L : Hp} {g : Env}
theorem ev_append {t e : TypeId} [hu : Und P t (.slice e)] {sz by' : Nat} {z : Value} [hi : Inf P e sz by' z] {x y : Operand} {v v2 : Value} {xs ns : List (List Value)} {h R : Hp}
    (hx : ev g x = some v) (hy : ev g y = some v2) (hr : isRow e sz xs v h) (hn : RdRow w0 L sz v2 ns) (h1 : ∀ n ∈ ns, ∀ u ∈ n, u.oneCell' = true) [hf : FrameI h L R]
    (hby : (by' == 0) = false) (hsz : (sz == 0) = false) (hzs : (z.cells.size == sz) = true) (hb : (xs.length + ns.length) * by' ≤ 140737488355328) :
    EV P w0 L g (.call { callee := .builtin .append, args := #[x, y], argTypes := #[t, t] }) fun u L' => ∃ h', isRow e sz (xs ++ ns) u h' ∧ L' = h' + R := by
  intro o a w n ho ha hst
  obtain ⟨i, i1, i2, i3, i4⟩ := hi.out
  obtain ⟨ad2, c2, rfl, hn⟩ := hn
  have n1 := hn.1
  have n2 : ∀ j u, ns.flatten[j]? = some u → ∃ a, ad2 = some a ∧ Reads w0 L (a.add j) u := fun j u hu => by
    obtain ⟨b, off, rfl, h⟩ := hn.flat hu
    exact ⟨_, rfl, by rw [add_none]; exact h⟩
  have hby' : 1 ≤ by' := by have : by' ≠ 0 := by simpa using hby
                            omega
  have hsz' : 1 ≤ sz := by have : sz ≠ 0 := by simpa using hsz
                           omega
  have hzs' : z.cells.size = sz := by simpa using hzs
  have hlen : xs.length + ns.length ≤ 140737488355328 := Nat.le_trans (Nat.le_mul_of_pos_right _ hby') hb
  have hall : ∀ x ∈ xs ++ ns, x.length = sz := fun x hx => (List.mem_append.1 hx).elim (hr.1 x) (n1 x)
  have hfl := length_flat n1
  have hflx := length_flat hr.1
  have run : execOp a.eval o = (do pure (.value (← Builtin.append_ #[t, t] o.type #[v, .slice ad2 ns.length c2]))) := by
    unfold execOp
    simp only [ho, resolve, invoke, builtin, ha.ev hx, ha.ev hy, List.map_toArray, List.map_cons, List.map_nil, pure_bind]
  have h1' : ∀ u ∈ ns.flatten, u.oneCell' = true := fun u hu => by
    obtain ⟨m, hm, hum⟩ := List.mem_flatten.1 hu
    exact h1 m hm u hum
  by_cases hm : ns = []
  · subst hm
    have hL : St w0 w (h + R) := by rw [hf.out] at hst; exact hst
    refine ⟨v, w, h + R, .inl ?_, ⟨h, by simpa using hr, rfl⟩, hL⟩
    rw [run]
    have e0 : (Builtin.firstCells i.size 0 (.slice ad2 0 c2)).run P w = .ok #[] w := by
      cases ad2 <;> simp [Builtin.firstCells, loadCells, loadCellsFrom]
    obtain ⟨_, ⟨ad, rfl, rfl, rfl⟩ | ⟨b, cap, spare, rfl, rfl, k1, k2, k3⟩⟩ := hr
    · simp only [List.length_nil]
      cases ad <;> simp [Builtin.append_, run_underlying hu.out, sizeOf, typeInfo, i1, Builtin.lenOf, e0, storeCells]
    · simp only [List.length_nil]
      simp [Builtin.append_, run_underlying hu.out, sizeOf, typeInfo, i1, Builtin.lenOf, e0, storeCells, k1]
  · have hpos : 0 < ns.length := List.length_pos_iff.2 hm
    have hne : ns.flatten ≠ [] := fun e => by
      have : ns.flatten.length = 0 := by rw [e]; rfl
      rw [hfl] at this
      have := Nat.mul_pos hpos hsz'
      omega
    obtain ⟨a2, rfl⟩ : ∃ a2, ad2 = some a2 := by
      cases hh : ns.flatten with
      | nil => exact absurd hh hne
      | cons u l => obtain ⟨a2, h, _⟩ := n2 0 u (by rw [hh]; rfl); exact ⟨a2, h⟩
    have hnews : ∀ j u, ns.flatten[j]? = some u → w.cell? (a2.add j) = some u := fun j u hu => by
      obtain ⟨a3, h, hr⟩ := n2 j u hu
      cases h
      exact hr w hst
    have grow : ∀ (old : Nat), old < xs.length + ns.length →
        isRow e sz (xs ++ ns) (.slice (some ⟨w.heap.size, 0, none⟩) (xs.length + ns.length) (grownCap w (xs.length + ns.length) old e))
          (pt w.heap.size (.cells (xs.flatten.toArray ++ ns.flatten.toArray ++ Builtin.zeroCells z.cells (grownCap w (xs.length + ns.length) old e - (xs.length + ns.length))) e)) := by
      intro old ho
      refine ⟨hall, .inr ⟨w.heap.size, grownCap w (xs.length + ns.length) old e, (Builtin.zeroCells z.cells (grownCap w (xs.length + ns.length) old e - (xs.length + ns.length))).toList, by simp, ?_, ?_, ?_, ?_⟩⟩
      · congr 2
        apply Array.ext'
        simp
      · simp only [List.length_append]; exact grownCap_ge w _ _ _
      · exact grownCap_le_maxLen w _ _ _ (by unfold maxLen; omega)
      · simp only [Array.length_toList, size_zeroCells, hzs', List.length_append]
    have hR : St w0 w R := by rw [hf.out] at hst; exact hst.right
    obtain ⟨_, ⟨ad, rfl, rfl, rfl⟩ | ⟨b, cap, spare, rfl, rfl, k1, k2, k3⟩⟩ := hr
    · have hg := grow 0 (by simpa using hpos)
      simp only [List.length_nil, Nat.zero_add, List.flatten_nil, List.nil_append, Array.empty_append] at hg
      refine ⟨_, w.drew.alloc _, _, .inl ?_, ⟨_, hg, rfl⟩, hR.drew.alloc _⟩
      rw [run]
      cases ad with
      | none =>
        have := run_append_nil (P := P) w t o.type e i z hu.out i1 i4 a2 ns.length c2 ns.flatten (by rw [i2]; exact hfl) hnews hpos (by omega) (by simp only [List.length_nil, Nat.zero_add] at hb; rw [i3]; omega)
        simp only [Sem.run_bind, this, Result.andThen_ok, Sem.run_pure]
      | some a0 =>
        have := run_append_grow (P := P) w t o.type e i z hu.out i1 i4 a0 0 0 [] (by simp) (by simp) a2 ns.length c2 ns.flatten (by rw [i2]; exact hfl) hnews (by omega) (by omega) (by rw [i3]; exact growslice_fits (by omega) (by simpa using hb))
        simp only [Sem.run_bind, this, Result.andThen_ok, Sem.run_pure, Nat.zero_add]
        simp
    · have hheap : w.heap[b]? = some (.cells (xs.flatten ++ spare).toArray e (0, 0)) := by rw [hf.out] at hst; exact hst.sat.left.pt.2
      by_cases hroom : xs.length + ns.length ≤ cap
      · have hfit : xs.length * i.size + ns.flatten.length ≤ (xs.flatten ++ spare).toArray.size := by
          simp only [List.size_toArray, List.length_append, hfl, hflx, k3, i2, ← Nat.add_mul]
          exact Nat.mul_le_mul_right _ (by omega)
        have := run_append_room (P := P) w t o.type e i hu.out i1 b xs.length cap _ hheap a2 ns.length c2 ns.flatten (by rw [i2]; exact hfl) hnews h1' hroom hfit
        refine ⟨.slice (some ⟨b, 0, none⟩) (xs.length + ns.length) cap, w.setRow b ((xs.flatten ++ spare).toArray.toList.take (xs.length * i.size) ++ ns.flatten ++ (xs.flatten ++ spare).toArray.toList.drop (xs.length * i.size + ns.flatten.length)).toArray, pt b (.cells ((xs ++ ns).flatten ++ spare.drop (ns.length * sz)).toArray e (0, 0)) + R, .inl (by rw [run]; simp only [Sem.run_bind, this, Result.andThen_ok, Sem.run_pure]), ⟨_, ⟨hall, .inr ⟨b, cap, spare.drop (ns.length * sz), by simp, rfl, by simp; omega, k2, ?_⟩⟩, rfl⟩, ?_⟩
        · simp only [List.length_drop, k3, List.length_append, ← Nat.sub_mul]
          congr 1; omega
        · have hst' : St w0 w (pt b (.cells (xs.flatten ++ spare).toArray e (0, 0)) + R) := by rw [hf.out] at hst; exact hst
          refine hst'.set ?_ (fun k hk => setRow_other w b k _ hk) (by simp) rfl rfl rfl
          rw [setRow_heap w b _ _ e (0, 0) hheap]
          congr 2
          rw [i2, ← hflx, List.toList_toArray, List.take_left, hfl, ← List.drop_drop, List.drop_left, List.flatten_append]
      · have hg := grow cap (by omega)
        refine ⟨_, w.drew.alloc _, _, .inl ?_, ⟨_, hg, rfl⟩, hR.drew.alloc _⟩
        have holds : ∀ j u, xs.flatten[j]? = some u → w.cell? ((⟨b, 0, none⟩ : Addr).add j) = some u := fun j u hu => by
          have hadd : (⟨b, 0, none⟩ : Addr).add j = ⟨b, j, none⟩ := by unfold Addr.add; split <;> simp_all
          have := (List.getElem?_eq_some_iff.1 hu).1
          simp [hadd, World.cell?, hheap, List.getElem?_append_left this, hu]
        have := run_append_grow (P := P) w t o.type e i z hu.out i1 i4 ⟨b, 0, none⟩ xs.length cap xs.flatten (by rw [i2]; exact hflx) holds a2 ns.length c2 ns.flatten (by rw [i2]; exact hfl) hnews (by omega) (by omega) (by rw [i3]; exact growslice_fits (by omega) hb)
        rw [run]
        simp only [Sem.run_bind, this, Result.andThen_ok, Sem.run_pure]
end
end Sl
end Go.Proofs.Ytdbmmnpnhpiecaa
