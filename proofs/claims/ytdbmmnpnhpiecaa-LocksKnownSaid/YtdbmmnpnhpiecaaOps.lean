/-
  Rules of the judgement for lists of operations, in a fixed order and in any order that a region that draws allows; rules for each kind of operation. No program in sight.
-/
import Derived.Test.YtdbmmnpnhpiecaaSl
import Derived.OrdersHeld
namespace Go.Proofs.Ytdbmmnpnhpiecaa
open Go Go.RowKit
namespace Sl
set_option linter.unusedVariables false
set_option linter.unusedSimpArgs false

theorem ite_yes {c : Prop} [Decidable c] {A B : Prop} (h : c) (a : A) : if c then A else B := by rw [if_pos h]; exact a
theorem ite_no {c : Prop} [Decidable c] {A B : Prop} (h : ¬ c) (b : B) : if c then A else B := by rw [if_neg h]; exact b
/-! ### Framing -/
class FrameI (X L : Hp) (R : outParam Hp) : Prop where
  out : L = X + R
instance (priority := 1300) (L : Hp) : FrameI 0 L L := ⟨(hzero_add _).symm⟩
instance (priority := 1200) (X : Hp) : FrameI X X 0 := ⟨(hadd_zero _).symm⟩
instance (priority := 1100) (X Y : Hp) : FrameI X (X + Y) Y := ⟨rfl⟩
instance (priority := 1000) (X Y : Hp) : FrameI X (Y + X) Y := ⟨hadd_comm _ _⟩
instance (priority := 900) (X1 X2 L L1 R : Hp) [h1 : FrameI X1 L L1] [h2 : FrameI X2 L1 R] : FrameI (X1 + X2) L R := ⟨by rw [h1.out, h2.out, hadd_assoc]⟩
instance (priority := 800) (X Y Z Y' : Hp) [h : FrameI X Y Y'] : FrameI X (Y + Z) (Y' + Z) := ⟨by rw [h.out, hadd_assoc]⟩
instance (priority := 700) (X Y Z Z' : Hp) [h : FrameI X Z Z'] : FrameI X (Y + Z) (Y + Z') := ⟨by rw [h.out, ← hadd_assoc, hadd_comm Y, hadd_assoc]⟩


/-! ### What is asked of the tables -/
class Und (P : Program) (t : TypeId) (d : outParam TypeDesc) : Prop where
  out : P.underlying t = some d
class Inf (P : Program) (t : TypeId) (size bytes : outParam Nat) (zero : outParam Value) : Prop where
  out : ∃ i, P.info? t = some i ∧ i.size = size ∧ i.bytes = bytes ∧ i.zero = some zero
class Fun (P : Program) (k : FuncId) : Prop where
  out : ∃ fn, P.funcs[k]? = some fn ∧ (fn.name == "runtime.NumGoroutine") = false ∧ fn.body.isNone = false
def notAgg : TypeDesc → Bool
  | .struct _ | .array _ _ => false
  | _ => true

/-! ### What an operation yields -/
/-- In whatever world, it yields v and does nothing else. -/
def PV (P : Program) (g : Env) (op : Op) (v : Value) : Prop :=
  ∀ (o : Oper) (a : Act) (w : World) (n : Nat), o.op = op → Fits n a g → (execOp a.eval o).run P w = .ok (.value v) w
/-- It reads the variable of type t at ad. -/
def LV (g : Env) (op : Op) (t : TypeId) (ad : Addr) : Prop :=
  ∀ (o : Oper) (a : Act) (n : Nat), o.op = op → Fits n a g → execOp a.eval o = (do pure (.value (← loadVar t ad)))
/-- It yields a value and leaves a heap, of which 'post' holds. -/
def EV (P : Program) (w0 : World) (L : Hp) (g : Env) (op : Op) (post : Value → Hp → Prop) : Prop :=
  ∀ (o : Oper) (a : Act) (w : World) (n : Nat), o.op = op → Fits n a g → St w0 w L →
    ∃ v w' L', ((execOp a.eval o).run P w = .ok (.value v) w' ∨ ((execOp a.eval o).run P w = .ok .skip w' ∧ v = undef)) ∧ post v L' ∧ St w0 w' L'
/-- It calls function k with args. -/
def CV (P : Program) (g : Env) (op : Op) (k : FuncId) (args : List Value) : Prop :=
  ∀ (o : Oper) (a : Act) (w : World) (n : Nat), o.op = op → Fits n a g → (execOp a.eval o).run P w = .ok (.enter k args.toArray) w

/-! ### Guards -/
def yieldedE (ops : Array Oper) (g : Env) (j : Nat) : Option (Option Bool) :=
  match (ops[j]?).bind (·.dst) with
  | none => some none
  | some d => match look g d with
    | some (.bool b) => some (some b)
    | some (.tuple _) => some none
    | _ => none
def wantedE (ops : Array Oper) (g : Env) : Option (Nat × Bool) → Option Bool
  | none => some true
  | some (j, want) => (yieldedE ops g j).map (· == some want)
theorem wanted_of {ops : Array Oper} {g : Env} {o : Oper} {a : Act} {n : Nat} {b : Bool} (ha : Fits n a g) (h : wantedE ops g o.guard = some b) : Region.wanted o (yielded ops a.tmps) = b := by
  unfold wantedE at h
  unfold Region.wanted
  split at h
  · rename_i e; simp [e] at *; exact h
  · rename_i j want e
    simp only [e]
    unfold yieldedE at h
    unfold yielded
    cases hd : (ops[j]?).bind (·.dst) with
    | none => simp [hd] at h ⊢; exact h
    | some d =>
      simp only [hd] at h
      cases hl : look g d with
      | none => simp [hl] at h
      | some v =>
        have := ha.get d v hl
        simp only [hl] at h
        simp only [Option.bind_some, this]
        cases v <;> simp_all

section
variable {P : Program} {n : Nat} {w0 : World} {Q : Post} {g : Env} {L : Hp} {ops : Array Oper} {rest : List Oper} {dst : Option Nat} {op : Op} {ty : TypeId} {pos : String} {af : Array Edge} {gd : Option (Nat × Bool)}
theorem L_skip (hw : wantedE ops g gd = some false) (hd : dst.all (· < n) = true) (hk : HoldL P n w0 ops rest Q (putE g dst undef) L) : HoldL P n w0 ops (⟨dst, op, ty, pos, af, gd⟩ :: rest) Q g L := by
  intro a w ha hst
  exact wpList_skip (wanted_of (o := ⟨dst, op, ty, pos, af, gd⟩) ha hw) (hk _ w (ha.put hd _) hst)
theorem L_run (hw : wantedE ops g gd = some true) (h : ∀ a w, Fits n a g → St w0 w L → Oper.wp P ⟨dst, op, ty, pos, af, gd⟩ a w (wpList P ops (lift n w0 Q) rest) (lift n w0 Q)) : HoldL P n w0 ops (⟨dst, op, ty, pos, af, gd⟩ :: rest) Q g L := by
  intro a w ha hst
  unfold wpList
  rw [if_pos (wanted_of (o := ⟨dst, op, ty, pos, af, gd⟩) ha hw)]
  exact .inl (h a w ha hst)
theorem L_pure (hw : wantedE ops g gd = some true) (hd : dst.all (· < n) = true) {v : Value} (h : PV P g op v) (hk : HoldL P n w0 ops rest Q (putE g dst v) L) : HoldL P n w0 ops (⟨dst, op, ty, pos, af, gd⟩ :: rest) Q g L :=
  L_run hw fun a w ha hst => by
    unfold Oper.wp
    rw [h ⟨dst, op, ty, pos, af, gd⟩ a w n rfl ha]
    exact hk _ w (ha.put hd _) hst
theorem L_bool (hw : wantedE ops g gd = some true) (hd : dst.all (· < n) = true) {b : Bool} (h : PV P g op (.bool b)) (ht : b = true → HoldL P n w0 ops rest Q (putE g dst (.bool true)) L)
    (hf : b = false → HoldL P n w0 ops rest Q (putE g dst (.bool false)) L) : HoldL P n w0 ops (⟨dst, op, ty, pos, af, gd⟩ :: rest) Q g L := by
  cases b
  · exact L_pure hw hd h (hf rfl)
  · exact L_pure hw hd h (ht rfl)
theorem L_dec (hw : wantedE ops g gd = some true) (hd : dst.all (· < n) = true) {p : Prop} [Decidable p] (h : PV P g op (.bool (decide p))) (ht : p → HoldL P n w0 ops rest Q (putE g dst (.bool true)) L)
    (hf : ¬ p → HoldL P n w0 ops rest Q (putE g dst (.bool false)) L) : HoldL P n w0 ops (⟨dst, op, ty, pos, af, gd⟩ :: rest) Q g L :=
  L_bool hw hd h (fun e => ht (of_decide_eq_true e)) (fun e => hf (of_decide_eq_false e))
theorem L_yes (hw : wantedE ops g gd = some true) (hd : dst.all (· < n) = true) {p : Prop} [Decidable p] (h : PV P g op (.bool (decide p))) (hp : p) (hk : HoldL P n w0 ops rest Q (putE g dst (.bool true)) L) :
    HoldL P n w0 ops (⟨dst, op, ty, pos, af, gd⟩ :: rest) Q g L := L_dec hw hd h (fun _ => hk) (fun h => absurd hp h)
theorem L_no (hw : wantedE ops g gd = some true) (hd : dst.all (· < n) = true) {p : Prop} [Decidable p] (h : PV P g op (.bool (decide p))) (hp : ¬ p) (hk : HoldL P n w0 ops rest Q (putE g dst (.bool false)) L) :
    HoldL P n w0 ops (⟨dst, op, ty, pos, af, gd⟩ :: rest) Q g L := L_dec hw hd h (fun h => absurd h hp) (fun _ => hk)
theorem holdL_keep (L' : Hp) {R : Hp} [e : FrameI L' L R] (h : HoldL P n w0 ops rest Q g L') : HoldL P n w0 ops rest Q g L := holdL_heap L' e.out h
theorem L_load (hw : wantedE ops g gd = some true) (hd : dst.all (· < n) = true) {t : TypeId} {ad : Addr} {v : Value} (h : LV g op t ad) (hr : Loads P w0 L t ad v)
    (hk : HoldL P n w0 ops rest Q (putE g dst v) L) : HoldL P n w0 ops (⟨dst, op, ty, pos, af, gd⟩ :: rest) Q g L :=
  L_run hw fun a w ha hst => by
    unfold Oper.wp
    rw [h ⟨dst, op, ty, pos, af, gd⟩ a n rfl ha]
    simp only [Sem.run_bind, hr w hst, Result.andThen_ok, Sem.run_pure]
    exact hk _ w (ha.put hd _) hst
theorem L_eff (hw : wantedE ops g gd = some true) (hd : dst.all (· < n) = true) {post : Value → Hp → Prop} (h : EV P w0 L g op post)
    (hk : ∀ v L', post v L' → HoldL P n w0 ops rest Q (putE g dst v) L') : HoldL P n w0 ops (⟨dst, op, ty, pos, af, gd⟩ :: rest) Q g L :=
  L_run hw fun a w ha hst => by
    unfold Oper.wp
    obtain ⟨v, w', L', hr, hp, hst'⟩ := h ⟨dst, op, ty, pos, af, gd⟩ a w n rfl ha hst
    rcases hr with hr | ⟨hr, rfl⟩ <;> rw [hr] <;> exact hk _ L' hp _ w' (ha.put hd _) hst'
theorem L_call (hw : wantedE ops g gd = some true) (hd : dst.all (· < n) = true) {k : FuncId} {args : List Value} (h : CV P g op k args) {pre R : Hp} {post : Value → Hp → Prop}
    (hs : Spec P w0 k args pre post) [hL : FrameI pre L R] (hk : ∀ v h, post v h → HoldL P n w0 ops rest Q (putE g dst v) (h + R)) : HoldL P n w0 ops (⟨dst, op, ty, pos, af, gd⟩ :: rest) Q g L :=
  L_run hw fun a w ha hst => by
    unfold Oper.wp
    rw [h ⟨dst, op, ty, pos, af, gd⟩ a w n rfl ha]
    rw [hL.out] at hst
    refine Calls.mono (hs w R hst) ?_
    rintro e w' ⟨v, h', rfl, hp, hst'⟩
    exact hk v h' hp _ w' (ha.put hd _) hst'
end

/-! ### Regions that draw their order -/
/-- Must operation k come ahead of operation j? (within f steps) -/
def bf (ops : Array Oper) : Nat → Nat → Nat → Bool
  | 0, _, _ => false
  | f + 1, k, j => match ops[j]? with
    | none => false
    | some o => o.after.any fun e => Region.binds .any e && (e.on == k || bf ops f k e.on)
/-- What is listed has all that must come ahead of it listed. -/
def Closed (ops : Array Oper) (listed : Array Bool) : Prop := ∀ f k j, bf ops f k j = true → listed.getD j false = true → listed.getD k false = true
theorem bf_ready {ops : Array Oper} {listed : Array Bool} (hc : Closed ops listed) {j : Nat} (hj : j ∈ Region.ready .any ops listed) {f k : Nat} (h : bf ops f k j = true) : listed.getD k false = true := by
  obtain ⟨_, o, ho, hall⟩ := mem_ready.1 hj
  cases f with
  | zero => simp [bf] at h
  | succ f =>
    simp only [bf, ho] at h
    rw [Array.any_eq_true'] at h
    obtain ⟨e, he, h⟩ := h
    simp only [Bool.and_eq_true, Bool.or_eq_true, beq_iff_eq] at h
    have hl := hall e he h.1
    rcases h.2 with rfl | h2
    · exact hl
    · exact hc f k e.on h2 hl
theorem Closed.set {ops : Array Oper} {listed : Array Bool} (hc : Closed ops listed) {i : Nat} (hi : i ∈ Region.ready .any ops listed) : Closed ops (listed.setIfInBounds i true) := by
  intro f k j h hj
  by_cases hij : i = j
  · subst hij; exact getD_set_true (bf_ready hc hi h)
  · rw [getD_set_ne false hij] at hj; exact getD_set_true (hc f k j h hj)
theorem Closed.start (ops : Array Oper) (n : Nat) : Closed ops (Array.replicate n false) := by
  intro f k j _ hj
  simp [Array.getD_eq_getD_getElem?, Array.getElem?_replicate] at hj
  split at hj <;> simp at hj
abbrev Watch := List (Nat × (World → Prop))
def Watch.past (ops : Array Oper) (i : Nat) (W : Watch) : Watch := W.filter fun p => !bf ops ops.size p.1 i
/-- Whatever order is picked; behind each operation all that is watched holds, but for what must come ahead of it. -/
def WG (P : Program) (ops : Array Oper) (Q : Exit → Act → World → Prop) : Nat → Watch → Array Bool → Act → World → Prop
  | 0, _, listed, a, w => Region.ready .any ops listed = [] ∧ Q .normal a w
  | fuel + 1, W, listed, a, w => (Region.ready .any ops listed = [] → Q .normal a w) ∧
    ∀ i ∈ Region.ready .any ops listed, wpOp P ops Q i (fun a' w' => (∀ p ∈ W.past ops i, p.2 w') ∧ WG P ops Q fuel (W.past ops i) (listed.setIfInBounds i true) a' w') a w
theorem WG_any {P : Program} {ops : Array Oper} {Q : Exit → Act → World → Prop} : ∀ (fuel : Nat) (W : Watch) (listed : Array Bool) (a : Act) (w : World), WG P ops Q fuel W listed a w → wpAny P .any ops Q fuel listed a w
  | 0, _, _, _, _, h => h
  | fuel + 1, _, _, _, _, h => ⟨h.1, fun i hi => wpOp_mono (fun a' w' h' => WG_any fuel _ _ a' w' h'.2) (h.2 i hi)⟩
theorem WG_sub {P : Program} {ops : Array Oper} {Q : Exit → Act → World → Prop} : ∀ (fuel : Nat) (W W' : Watch) (listed : Array Bool) (a : Act) (w : World), (∀ p ∈ W', p ∈ W ∨ ∀ w, p.2 w) → WG P ops Q fuel W listed a w → WG P ops Q fuel W' listed a w
  | 0, _, _, _, _, _, _, h => h
  | fuel + 1, W, W', _, _, _, hs, h => by
    have hs' : ∀ i, ∀ p ∈ W'.past ops i, p ∈ W.past ops i ∨ ∀ w, p.2 w := fun i p hp => by
      obtain ⟨h1, h2⟩ := List.mem_filter.1 hp
      exact (hs p h1).imp (fun h => List.mem_filter.2 ⟨h, h2⟩) id
    exact ⟨h.1, fun i hi => wpOp_mono (fun a' w' h' => ⟨fun p hp => (hs' i p hp).elim (h'.1 p) (fun h => h w'), WG_sub fuel _ _ _ a' w' (hs' i) h'.2⟩) (h.2 i hi)⟩
theorem WG_first {P : Program} {ops : Array Oper} {Q : Exit → Act → World → Prop} {S : World → Prop} {i : Nat} {oi : Oper} {v : Value} (hi : ops[i]? = some oi)
    (hsel : ∀ (j : Nat) (o : Oper) cs b, ops[j]? = some o → o.op ≠ .select cs b) (hQ : ∀ c a w, ¬ Q (.panic c) a w) :
    ∀ (fuel : Nat) (W : Watch) (listed : Array Bool) (a : Act) (w : World), Closed ops listed →
      (∀ j oj, ops[j]? = some oj → j ≠ i → listed.getD j true = false → (∀ e ∈ oj.after, Region.binds .any e = true → e.on ≠ i) → oi.apart ops oj = true) →
      i ∈ Region.ready .any ops listed → YieldsIf P ops S oi v a → S w → (∀ p ∈ W, p.2 w) →
      WG P ops Q fuel ((i, S) :: W) (listed.setIfInBounds i true) (a.put oi.dst v) w → WG P ops Q (fuel + 1) W listed a w := by
  have self : ∀ (fuel : Nat) (W : Watch) (listed : Array Bool) (a : Act) (w : World), (∀ p ∈ W, p.2 w) → WG P ops Q fuel ((i, S) :: W) (listed.setIfInBounds i true) (a.put oi.dst v) w →
      ((∀ p ∈ W.past ops i, p.2 w) ∧ WG P ops Q fuel (W.past ops i) (listed.setIfInBounds i true) (a.put oi.dst v) w) := fun fuel W listed a w hW H =>
    ⟨fun p hp => hW p (List.mem_filter.1 hp).1, WG_sub fuel _ _ _ _ _ (fun p hp => .inl (List.mem_cons_of_mem _ (List.mem_filter.1 hp).1)) H⟩
  intro fuel
  induction fuel with
  | zero =>
    intro W listed a w hc _ hr hy hS hW H
    refine ⟨fun h => (by rw [h] at hr; cases hr), fun j hj => ?_⟩
    by_cases hji : j = i
    · subst hji; exact hy.wpOp hi hS (self 0 W listed a w hW H)
    · have := ready_mono hj hji
      rw [H.1] at this
      cases this
  | succ fuel ih =>
    intro W listed a w hc hfree hr hy hS hW H
    refine ⟨fun h => (by rw [h] at hr; cases hr), fun j hj => ?_⟩
    by_cases hji : j = i
    · subst hji; exact hy.wpOp hi hS (self (fuel + 1) W listed a w hW H)
    · have h1 := H.2 j (ready_mono hj hji)
      obtain ⟨hjun, oj, hoj, hall⟩ := mem_ready.1 hj
      have hiun : listed.getD i false = false := by
        have h0 := (mem_ready.1 hr).1
        rcases Nat.lt_or_ge i listed.size with h' | h'
        · simp [h'] at h0 ⊢; exact h0
        · simp [Array.getElem?_eq_none h']
      have hbf : bf ops ops.size i j = false := by
        cases hb : bf ops ops.size i j with
        | false => rfl
        | true => rw [bf_ready hc hj hb] at hiun; cases hiun
      have hpast : Watch.past ops j ((i, S) :: W) = (i, S) :: Watch.past ops j W := by simp [Watch.past, hbf]
      have hnot : ∀ e ∈ oj.after, Region.binds .any e = true → e.on ≠ i := fun e he hb heq => by
        have h1 := hall e he hb
        rw [heq, hiun] at h1; cases h1
      have h2 := wpOp_putIf hoj (hfree j oj hoj hji hjun hnot) (fun cs b => hsel i oi cs b hi) (fun cs b => hsel j oj cs b hoj) (fun c a w h => (hQ c _ w h).elim) hy h1
      have hfree' : ∀ k ok, ops[k]? = some ok → k ≠ i → (listed.setIfInBounds j true).getD k true = false →
          (∀ e ∈ ok.after, Region.binds .any e = true → e.on ≠ i) → oi.apart ops ok = true := fun k ok hk hki hun hno => by
        refine hfree k ok hk hki ?_ hno
        by_cases hjk : j = k
        · subst hjk; exact hjun
        · rw [getD_set_ne true hjk] at hun; exact hun
      refine wpOp_mono (fun a' w' h3 => ?_) h2
      rw [hpast] at h3
      refine ⟨fun p hp => h3.2.1 p (List.mem_cons_of_mem _ hp), ?_⟩
      refine ih (W.past ops j) (listed.setIfInBounds j true) a' w' (hc.set hj) hfree' (ready_mono hr (Ne.symm hji)) h3.1 (h3.2.1 (i, S) (by simp)) (fun p hp => h3.2.1 p (List.mem_cons_of_mem _ hp)) ?_
      rw [Array.setIfInBounds_comm _ _ hji]
      exact h3.2.2

/-! ### The order in which a region is walked: what is quiet as soon as it may come, else the one operation that may -/
/-- 'eff': the operations that may change the heap. 's': the order of the walk. -/
def okOrder (ops : Array Oper) (eff : List Nat) : Array Bool → List Nat → Bool
  | listed, [] => Region.ready .any ops listed == []
  | listed, i :: s => (if eff.contains i then Region.ready .any ops listed == [i] else (Region.ready .any ops listed).contains i && Region.free .any ops listed i) && okOrder ops eff (listed.setIfInBounds i true) s
/-- What is watched: that the variable of a type at an address holds a value. -/
abbrev Watched := List (Nat × TypeId × Addr × Value)
def Watched.at (P : Program) (W : Watched) : Watch := W.map fun p => (p.1, fun w => (loadVar p.2.1 p.2.2.1).run P w = .ok p.2.2.2 w)
def Watched.past (ops : Array Oper) (i : Nat) (W : Watched) : Watched := W.filter fun p => !bf ops ops.size p.1 i
theorem Watched.at_past (P : Program) (ops : Array Oper) (i : Nat) (W : Watched) : (W.at P).past ops i = (W.past ops i).at P := by
  simp only [Watch.past, Watched.at, Watched.past, List.filter_map]
  rfl
class NP (Q : Post) : Prop where
  out : ∀ c g L, ¬ Q (.panic c) g L
instance (P : Program) (n : Nat) (w0 : World) (y : Code) (Q : Post) [h : NP Q] : NP (seqQ P n w0 y Q) := ⟨h.out⟩
instance (id : Nat) (Q : Post) [h : NP Q] : NP (blockQ id Q) := ⟨h.out⟩
instance (I : Nat → Env → Hp → Prop) (m : Nat) (Q : Post) [h : NP Q] : NP (loopQ I m Q) := ⟨h.out⟩
instance (P : Program) (w0 : World) (rs : List ResultVar) (fr : Hp) (post : Value → Hp → Prop) : NP (retQ P w0 rs fr post) := ⟨fun _ _ _ h => h⟩
instance (P : Program) (w0 : World) (rs : List ResultVar) (fr : Hp) (post : Value → Hp → Prop) : NP (retD P w0 rs fr post) := ⟨fun _ _ _ h => h⟩
def HoldW (P : Program) (n : Nat) (w0 : World) (ops : Array Oper) (eff : List Nat) (W : Watched) (listed : Array Bool) (s : List Nat) (Q : Post) (g : Env) (L : Hp) : Prop :=
  okOrder ops eff listed s = true → Closed ops listed → NP Q → Region.noSelect ops = true → (∀ p ∈ W, Loads P w0 L p.2.1 p.2.2.1 p.2.2.2) →
    ∀ a w, Fits n a g → St w0 w L → WG P ops (lift n w0 Q) s.length (W.at P) listed a w
section
variable {P : Program} {n : Nat} {w0 : World} {Q : Post} {g : Env} {L : Hp} {ops : Array Oper} {eff : List Nat} {W : Watched} {listed : Array Bool} {s : List Nat}
theorem hold_draw {id : Nat} [hq : NP Q] (eff : List Nat) (s : List Nat) (hm : P.follows .mixedOrders = true) (hl : s.length = ops.size) (hs : Region.noSelect ops = true)
    (hok : okOrder ops eff (Array.replicate ops.size false) s = true) (h : HoldW P n w0 ops eff [] (Array.replicate ops.size false) s Q g L) : Hold P n w0 (.region id ops true) Q g L := by
  intro a w ha hst
  refine wp_region_any hm (WG_any _ [] _ _ _ ?_)
  rw [← hl]
  have := h hok (Closed.start ops _) hq hs (by simp) a { w with drawn := w.drawn + 1 } ha hst.drew
  rw [← hl] at this
  exact this
theorem W_nil (h : Q .normal g L) : HoldW P n w0 ops eff W listed [] Q g L := by
  intro hok _ _ _ _ a w ha hst
  simp only [okOrder, beq_iff_eq] at hok
  exact ⟨hok, g, L, h, ha, hst⟩
theorem lift_np [hq : NP Q] (c : List PanicEntry) (a : Act) (w : World) : ¬ lift n w0 Q (.panic c) a w := fun ⟨_, _, h, _⟩ => hq.out _ _ _ h
theorem watch_holds {w : World} (hW : ∀ p ∈ W, Loads P w0 L p.2.1 p.2.2.1 p.2.2.2) (hst : St w0 w L) : ∀ p ∈ W.at P, p.2 w := by
  intro p hp
  obtain ⟨q, hq, rfl⟩ := List.mem_map.1 hp
  exact hW q hq w hst
theorem W_take {i : Nat} {o : Oper} {v : Value} (S : World → Prop) (W' : Watched) (hi : ops[i]? = some o) (heff : eff.contains i = false) (hd : o.dst.all (· < n) = true)
    (hW' : ∀ p ∈ (i, S) :: Watched.at P W, p ∈ Watched.at P W' ∨ ∀ w, p.2 w) (hS : ∀ w, St w0 w L → S w) (hlW : (∀ p ∈ W, Loads P w0 L p.2.1 p.2.2.1 p.2.2.2) → ∀ p ∈ W', Loads P w0 L p.2.1 p.2.2.1 p.2.2.2)
    (hy : ∀ a, Fits n a g → YieldsIf P ops S o v a)
    (hk : HoldW P n w0 ops eff W' (listed.setIfInBounds i true) s Q (putE g o.dst v) L) : HoldW P n w0 ops eff W listed (i :: s) Q g L := by
  intro hok hc hq hsel hW a w ha hst
  simp only [okOrder, heff, Bool.and_eq_true, Bool.false_eq_true, if_false] at hok
  obtain ⟨⟨h1, h2⟩, h3⟩ := hok
  have hr : i ∈ Region.ready .any ops listed := by simpa using h1
  have H := hk h3 (hc.set hr) hq hsel (hlW hW) (a.put o.dst v) w (ha.put hd v) hst
  exact WG_first hi (Region.noSelect_spec hsel) (fun c a w => lift_np c a w) s.length (W.at P) listed a w hc
    (fun j oj hj hne hun hno => Region.free_spec hi h2 j oj hj hne hun hno) hr (hy a ha) (hS w hst) (watch_holds hW hst) (WG_sub _ _ _ _ _ _ hW' H)
theorem W_skip {i : Nat} {dst : Option Nat} {op : Op} {ty : TypeId} {pos : String} {af : Array Edge} {gd : Option (Nat × Bool)} (hi : ops[i]? = some ⟨dst, op, ty, pos, af, gd⟩) (heff : eff.contains i = false) (hw : wantedE ops g gd = some false) (hd : dst.all (· < n) = true)
    (hk : HoldW P n w0 ops eff W (listed.setIfInBounds i true) s Q (putE g dst undef) L) : HoldW P n w0 ops eff W listed (i :: s) Q g L :=
  W_take (fun _ => True) W hi heff hd (fun p hp => by rcases List.mem_cons.1 hp with rfl | hp; exact .inr fun _ => trivial; exact .inl hp) (fun _ _ => trivial) id (fun a ha => .inr ⟨wanted_of (o := ⟨dst, op, ty, pos, af, gd⟩) ha hw, rfl⟩) hk
theorem W_pure {i : Nat} {dst : Option Nat} {op : Op} {ty : TypeId} {pos : String} {af : Array Edge} {gd : Option (Nat × Bool)} (hi : ops[i]? = some ⟨dst, op, ty, pos, af, gd⟩) (heff : eff.contains i = false) (hw : wantedE ops g gd = some true) (hd : dst.all (· < n) = true) {v : Value} (h : PV P g op v)
    (hk : HoldW P n w0 ops eff W (listed.setIfInBounds i true) s Q (putE g dst v) L) : HoldW P n w0 ops eff W listed (i :: s) Q g L :=
  W_take (fun _ => True) W hi heff hd (fun p hp => by rcases List.mem_cons.1 hp with rfl | hp; exact .inr fun _ => trivial; exact .inl hp) (fun _ _ => trivial) id
    (fun a ha => .inl ⟨wanted_of (o := ⟨dst, op, ty, pos, af, gd⟩) ha hw, fun w _ => h ⟨dst, op, ty, pos, af, gd⟩ a w n rfl ha⟩) hk
theorem W_bool {i : Nat} {dst : Option Nat} {op : Op} {ty : TypeId} {pos : String} {af : Array Edge} {gd : Option (Nat × Bool)} (hi : ops[i]? = some ⟨dst, op, ty, pos, af, gd⟩) (heff : eff.contains i = false) (hw : wantedE ops g gd = some true) (hd : dst.all (· < n) = true) {b : Bool} (h : PV P g op (.bool b))
    (ht : b = true → HoldW P n w0 ops eff W (listed.setIfInBounds i true) s Q (putE g dst (.bool true)) L)
    (hf : b = false → HoldW P n w0 ops eff W (listed.setIfInBounds i true) s Q (putE g dst (.bool false)) L) : HoldW P n w0 ops eff W listed (i :: s) Q g L := by
  cases b
  · exact W_pure hi heff hw hd h (hf rfl)
  · exact W_pure hi heff hw hd h (ht rfl)
theorem W_dec {i : Nat} {dst : Option Nat} {op : Op} {ty : TypeId} {pos : String} {af : Array Edge} {gd : Option (Nat × Bool)} (hi : ops[i]? = some ⟨dst, op, ty, pos, af, gd⟩) (heff : eff.contains i = false) (hw : wantedE ops g gd = some true) (hd : dst.all (· < n) = true) {p : Prop} [Decidable p] (h : PV P g op (.bool (decide p)))
    (ht : p → HoldW P n w0 ops eff W (listed.setIfInBounds i true) s Q (putE g dst (.bool true)) L)
    (hf : ¬ p → HoldW P n w0 ops eff W (listed.setIfInBounds i true) s Q (putE g dst (.bool false)) L) : HoldW P n w0 ops eff W listed (i :: s) Q g L :=
  W_bool hi heff hw hd h (fun e => ht (of_decide_eq_true e)) (fun e => hf (of_decide_eq_false e))
theorem W_yes {i : Nat} {dst : Option Nat} {op : Op} {ty : TypeId} {pos : String} {af : Array Edge} {gd : Option (Nat × Bool)} (hi : ops[i]? = some ⟨dst, op, ty, pos, af, gd⟩) (heff : eff.contains i = false) (hw : wantedE ops g gd = some true) (hd : dst.all (· < n) = true)
    {p : Prop} [Decidable p] (h : PV P g op (.bool (decide p))) (hp : p) (hk : HoldW P n w0 ops eff W (listed.setIfInBounds i true) s Q (putE g dst (.bool true)) L) : HoldW P n w0 ops eff W listed (i :: s) Q g L :=
  W_dec hi heff hw hd h (fun _ => hk) (fun h => absurd hp h)
theorem W_no {i : Nat} {dst : Option Nat} {op : Op} {ty : TypeId} {pos : String} {af : Array Edge} {gd : Option (Nat × Bool)} (hi : ops[i]? = some ⟨dst, op, ty, pos, af, gd⟩) (heff : eff.contains i = false) (hw : wantedE ops g gd = some true) (hd : dst.all (· < n) = true)
    {p : Prop} [Decidable p] (h : PV P g op (.bool (decide p))) (hp : ¬ p) (hk : HoldW P n w0 ops eff W (listed.setIfInBounds i true) s Q (putE g dst (.bool false)) L) : HoldW P n w0 ops eff W listed (i :: s) Q g L :=
  W_dec hi heff hw hd h (fun h => absurd h hp) (fun _ => hk)
theorem W_load {i : Nat} {dst : Option Nat} {op : Op} {ty : TypeId} {pos : String} {af : Array Edge} {gd : Option (Nat × Bool)} (hi : ops[i]? = some ⟨dst, op, ty, pos, af, gd⟩) (heff : eff.contains i = false) (hw : wantedE ops g gd = some true) (hd : dst.all (· < n) = true) {t : TypeId} {ad : Addr} {v : Value} (h : LV g op t ad)
    (hr : Loads P w0 L t ad v) (hk : HoldW P n w0 ops eff ((i, t, ad, v) :: W) (listed.setIfInBounds i true) s Q (putE g dst v) L) : HoldW P n w0 ops eff W listed (i :: s) Q g L :=
  W_take (fun w => (loadVar t ad).run P w = .ok v w) ((i, t, ad, v) :: W) hi heff hd (fun p hp => .inl hp) (fun w hst => hr w hst)
    (fun hW p hp => by rcases List.mem_cons.1 hp with rfl | hp; exact hr; exact hW p hp)
    (fun a ha => .inl ⟨wanted_of (o := ⟨dst, op, ty, pos, af, gd⟩) ha hw, fun w hS => by rw [h ⟨dst, op, ty, pos, af, gd⟩ a n rfl ha]; simp only [Sem.run_bind, hS, Result.andThen_ok, Sem.run_pure]⟩) hk
/-- What is still watched behind operation i. -/
inductive Kept (ops : Array Oper) (i : Nat) : Watched → Watched → Prop
  | nil : Kept ops i [] []
  | keep {p : Nat × TypeId × Addr × Value} {W W' : Watched} : Kept ops i W W' → Kept ops i (p :: W) (p :: W')
  | drop {p : Nat × TypeId × Addr × Value} {W W' : Watched} : bf ops ops.size p.1 i = true → Kept ops i W W' → Kept ops i (p :: W) W'
theorem Kept.all {i : Nat} : ∀ (W : Watched), Kept ops i W W
  | [] => .nil
  | _ :: W => .keep (Kept.all W)
theorem Kept.sub {i : Nat} {W W' : Watched} (h : Kept ops i W W') : ∀ p ∈ W.past ops i, p ∈ W' := by
  induction h with
  | nil => intro p hp; cases hp
  | keep h ih =>
    intro p hp
    obtain ⟨h1, h2⟩ := List.mem_filter.1 hp
    rcases List.mem_cons.1 h1 with rfl | h1
    · simp
    · exact List.mem_cons_of_mem _ (ih p (List.mem_filter.2 ⟨h1, h2⟩))
  | drop hb h ih =>
    intro p hp
    obtain ⟨h1, h2⟩ := List.mem_filter.1 hp
    rcases List.mem_cons.1 h1 with rfl | h1
    · simp [hb] at h2
    · exact ih p (List.mem_filter.2 ⟨h1, h2⟩)
theorem Kept.at {i : Nat} {W W' : Watched} (h : Kept ops i W W') : ∀ p ∈ (W.at P).past ops i, p ∈ W'.at P ∨ ∀ w, p.2 w := by
  intro p hp
  rw [Watched.at_past] at hp
  obtain ⟨q, hq, rfl⟩ := List.mem_map.1 hp
  exact .inl (List.mem_map.2 ⟨q, h.sub q hq, rfl⟩)
def AllLoads (P : Program) (w0 : World) (L : Hp) : Watched → Prop
  | [] => True
  | p :: W => Loads P w0 L p.2.1 p.2.2.1 p.2.2.2 ∧ AllLoads P w0 L W
theorem AllLoads.all {W : Watched} (h : AllLoads P w0 L W) : ∀ p ∈ W, Loads P w0 L p.2.1 p.2.2.1 p.2.2.2 := by
  induction W with
  | nil => intro p hp; cases hp
  | cons q W ih =>
    intro p hp
    rcases List.mem_cons.1 hp with rfl | hp
    · exact h.1
    · exact ih h.2 p hp
theorem W_eff {i : Nat} {dst : Option Nat} {op : Op} {ty : TypeId} {pos : String} {af : Array Edge} {gd : Option (Nat × Bool)} (hi : ops[i]? = some ⟨dst, op, ty, pos, af, gd⟩) (heff : eff.contains i = true) (hw : wantedE ops g gd = some true) (hd : dst.all (· < n) = true) {post : Value → Hp → Prop} (h : EV P w0 L g op post)
    {W' : Watched} (hW' : Kept ops i W W')
    (hk : ∀ v L', post v L' → AllLoads P w0 L' W' ∧ HoldW P n w0 ops eff W' (listed.setIfInBounds i true) s Q (putE g dst v) L') : HoldW P n w0 ops eff W listed (i :: s) Q g L := by
  intro hok hc hq hsel hW a w ha hst
  simp only [okOrder, heff, Bool.and_eq_true, if_true, beq_iff_eq] at hok
  obtain ⟨h1, h3⟩ := hok
  have hr : i ∈ Region.ready .any ops listed := by rw [h1]; simp
  refine ⟨fun e => (by rw [e] at h1; cases h1), fun j hj => ?_⟩
  rw [h1, List.mem_singleton] at hj
  subst hj
  have key : ∀ v w' L', post v L' → St w0 w' L' → (∀ p ∈ (W.at P).past ops j, p.2 w') ∧ WG P ops (lift n w0 Q) s.length ((W.at P).past ops j) (listed.setIfInBounds j true) (a.put dst v) w' := by
    intro v w' L' hp hst'
    obtain ⟨k1, k2⟩ := hk v L' hp
    have hh := watch_holds k1.all hst'
    exact ⟨fun p hp => (hW'.at p hp).elim (hh p) (fun h => h w'), WG_sub _ _ _ _ _ _ hW'.at (k2 h3 (hc.set hr) hq hsel k1.all _ w' (ha.put hd v) hst')⟩
  unfold wpOp
  simp only [hi, wanted_of (o := ⟨dst, op, ty, pos, af, gd⟩) ha hw, if_true]
  left
  unfold Oper.wp
  obtain ⟨v, w', L', hrun, hp, hst'⟩ := h ⟨dst, op, ty, pos, af, gd⟩ a w n rfl ha hst
  rcases hrun with hrun | ⟨hrun, rfl⟩ <;> rw [hrun] <;> exact key _ w' L' hp hst'
theorem W_call {i : Nat} {dst : Option Nat} {op : Op} {ty : TypeId} {pos : String} {af : Array Edge} {gd : Option (Nat × Bool)} (hi : ops[i]? = some ⟨dst, op, ty, pos, af, gd⟩) (heff : eff.contains i = true) (hw : wantedE ops g gd = some true) (hd : dst.all (· < n) = true) {k : FuncId} {args : List Value} (h : CV P g op k args)
    {pre R : Hp} {post : Value → Hp → Prop} (hs : Spec P w0 k args pre post) [hL : FrameI pre L R] {W' : Watched} (hW' : Kept ops i W W')
    (hk : ∀ v h, post v h → AllLoads P w0 (h + R) W' ∧ HoldW P n w0 ops eff W' (listed.setIfInBounds i true) s Q (putE g dst v) (h + R)) : HoldW P n w0 ops eff W listed (i :: s) Q g L := by
  intro hok hc hq hsel hW a w ha hst
  simp only [okOrder, heff, Bool.and_eq_true, if_true, beq_iff_eq] at hok
  obtain ⟨h1, h3⟩ := hok
  have hr : i ∈ Region.ready .any ops listed := by rw [h1]; simp
  refine ⟨fun e => (by rw [e] at h1; cases h1), fun j hj => ?_⟩
  rw [h1, List.mem_singleton] at hj
  subst hj
  unfold wpOp
  simp only [hi, wanted_of (o := ⟨dst, op, ty, pos, af, gd⟩) ha hw, if_true]
  left
  unfold Oper.wp
  rw [h ⟨dst, op, ty, pos, af, gd⟩ a w n rfl ha]
  rw [hL.out] at hst
  refine Calls.mono (hs w R hst) ?_
  rintro e w' ⟨v, h', rfl, hp, hst'⟩
  obtain ⟨k1, k2⟩ := hk v h' hp
  have hh := watch_holds k1.all hst'
  exact ⟨fun p hp => (hW'.at p hp).elim (hh p) (fun h => h w'), WG_sub _ _ _ _ _ _ hW'.at (k2 h3 (hc.set hr) hq hsel k1.all _ w' (ha.put hd v) hst')⟩
/-- An effect whose guard says no. -/
theorem W_not {i : Nat} {dst : Option Nat} {op : Op} {ty : TypeId} {pos : String} {af : Array Edge} {gd : Option (Nat × Bool)} (hi : ops[i]? = some ⟨dst, op, ty, pos, af, gd⟩) (heff : eff.contains i = true) (hw : wantedE ops g gd = some false) (hd : dst.all (· < n) = true)
    (hk : HoldW P n w0 ops eff W (listed.setIfInBounds i true) s Q (putE g dst undef) L) : HoldW P n w0 ops eff W listed (i :: s) Q g L := by
  intro hok hc hq hsel hW a w ha hst
  simp only [okOrder, heff, Bool.and_eq_true, if_true, beq_iff_eq] at hok
  obtain ⟨h1, h3⟩ := hok
  have hr : i ∈ Region.ready .any ops listed := by rw [h1]; simp
  refine ⟨fun e => (by rw [e] at h1; cases h1), fun j hj => ?_⟩
  rw [h1, List.mem_singleton] at hj
  subst hj
  unfold wpOp
  simp only [hi, wanted_of (o := ⟨dst, op, ty, pos, af, gd⟩) ha hw, Bool.false_eq_true, if_false]
  have hsub : ∀ p ∈ (W.at P).past ops j, p ∈ W.at P ∨ ∀ w, p.2 w := fun p hp => .inl (List.mem_filter.1 hp).1
  have hh := watch_holds hW hst
  exact ⟨fun p hp => hh p (List.mem_filter.1 hp).1, WG_sub _ _ _ _ _ _ hsub (hk h3 (hc.set hr) hq hsel hW _ w (ha.put hd _) hst)⟩
theorem hold_keep {c : Code} (L' : Hp) {R : Hp} [e : FrameI L' L R] (h : Hold P n w0 c Q g L') : Hold P n w0 c Q g L := hold_heap L' e.out h
end
end Sl
end Go.Proofs.Ytdbmmnpnhpiecaa
