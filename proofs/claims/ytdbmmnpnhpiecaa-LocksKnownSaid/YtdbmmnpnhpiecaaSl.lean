/-
  A small separation logic over the model: heaps as multisets of blocks, a judgement on code with an environment of slots, and rules for each kind of operation. No program in sight.
-/
import Derived.WalkKit
import Derived.Orders
namespace Go.Proofs.Ytdbmmnpnhpiecaa
open Go Go.RowKit
namespace Sl
set_option linter.unusedVariables false
set_option linter.unusedSimpArgs false

/-! ### Heaps: multisets of (block, object) -/
def Hp : Type := Quotient (List.isSetoid (Nat × Obj))
def Hp.mk (l : List (Nat × Obj)) : Hp := Quotient.mk _ l
def pt (b : Nat) (o : Obj) : Hp := Hp.mk [(b, o)]
def Hp.add (a b : Hp) : Hp :=
  Quotient.liftOn₂ a b (fun x y => Hp.mk (x ++ y)) (fun _ _ _ _ h1 h2 => Quotient.sound (List.Perm.append h1 h2))
instance : Add Hp := ⟨Hp.add⟩
instance : Zero Hp := ⟨Hp.mk []⟩
theorem mk_add (x y : List (Nat × Obj)) : Hp.mk x + Hp.mk y = Hp.mk (x ++ y) := rfl
theorem Hp.ind {p : Hp → Prop} (h : ∀ l, p (Hp.mk l)) (a : Hp) : p a := Quotient.ind h a
theorem hadd_assoc (a b c : Hp) : a + b + c = a + (b + c) := by
  induction a using Hp.ind; induction b using Hp.ind; induction c using Hp.ind
  simp only [mk_add, List.append_assoc]
theorem hadd_comm (a b : Hp) : a + b = b + a := by
  induction a using Hp.ind; induction b using Hp.ind
  simp only [mk_add]
  exact Quotient.sound List.perm_append_comm
theorem hzero_add (a : Hp) : 0 + a = a := by
  induction a using Hp.ind
  show Hp.mk [] + _ = _
  rw [mk_add]; rfl
theorem hadd_zero (a : Hp) : a + 0 = a := by rw [hadd_comm, hzero_add]
instance : Std.Associative (α := Hp) (· + ·) := ⟨hadd_assoc⟩
instance : Std.Commutative (α := Hp) (· + ·) := ⟨hadd_comm⟩
instance : Std.LawfulIdentity (α := Hp) (· + ·) 0 := { left_id := hzero_add, right_id := hadd_zero }
def hsum : List Hp → Hp
  | [] => 0
  | h :: l => h + hsum l
theorem hsum_append (l m : List Hp) : hsum (l ++ m) = hsum l + hsum m := by
  induction l with
  | nil => simp [hsum, hzero_add]
  | cons h l ih => simp only [List.cons_append, hsum, ih, hadd_assoc]

/-! ### A world holds a heap, from block B on -/
def SatL (B : Nat) (w : World) (l : List (Nat × Obj)) : Prop :=
  (l.map (·.1)).Nodup ∧ ∀ p ∈ l, B ≤ p.1 ∧ w.heap[p.1]? = some p.2
theorem SatL.perm {B : Nat} {w : World} {l m : List (Nat × Obj)} (h : l.Perm m) (s : SatL B w l) : SatL B w m :=
  ⟨(h.map _).nodup s.1, fun p hp => s.2 p (h.mem_iff.2 hp)⟩
def Sat (B : Nat) (w : World) (h : Hp) : Prop :=
  Quotient.liftOn h (SatL B w) (fun _ _ e => propext ⟨SatL.perm e, SatL.perm e.symm⟩)
theorem sat_mk {B : Nat} {w : World} {l : List (Nat × Obj)} : Sat B w (Hp.mk l) ↔ SatL B w l := Iff.rfl
theorem Sat.left {B : Nat} {w : World} {a b : Hp} : Sat B w (a + b) → Sat B w a := by
  induction a using Hp.ind; induction b using Hp.ind
  rw [mk_add, sat_mk, sat_mk]
  rintro ⟨h1, h2⟩
  refine ⟨?_, fun p hp => h2 p (List.mem_append_left _ hp)⟩
  rw [List.map_append] at h1
  exact (List.nodup_append.1 h1).1
theorem Sat.right {B : Nat} {w : World} {a b : Hp} (h : Sat B w (a + b)) : Sat B w b := by
  rw [hadd_comm] at h; exact h.left
theorem Sat.pt {B : Nat} {w : World} {b : Nat} {o : Obj} (h : Sat B w (pt b o)) : B ≤ b ∧ w.heap[b]? = some o :=
  h.2 (b, o) (by simp)
theorem Sat.ne {B : Nat} {w : World} {b b' : Nat} {o o' : Obj} (h : Sat B w (Sl.pt b o + Sl.pt b' o')) : b ≠ b' := by
  have := h.1; simp at this; exact this
theorem Sat.zero (B : Nat) (w : World) : Sat B w 0 := ⟨by simp, by simp⟩
theorem Sat.mono {B : Nat} {w w' : World} {a : Hp} (h : Sat B w a) (hk : ∀ k, B ≤ k → k < w.heap.size → w'.heap[k]? = w.heap[k]?) : Sat B w' a := by
  revert h; induction a using Hp.ind
  rintro ⟨h1, h2⟩
  exact ⟨h1, fun p hp => ⟨(h2 p hp).1, by rw [hk p.1 (h2 p hp).1 (Array.getElem?_eq_some_iff.1 (h2 p hp).2).1]; exact (h2 p hp).2⟩⟩
theorem Sat.set {B : Nat} {w w' : World} {b : Nat} {o o' : Obj} {R : Hp} (h : Sat B w (Sl.pt b o + R)) (hb : w'.heap[b]? = some o')
    (hk : ∀ k, k ≠ b → k < w.heap.size → w'.heap[k]? = w.heap[k]?) : Sat B w' (Sl.pt b o' + R) := by
  revert h; induction R using Hp.ind
  rintro ⟨h1, h2⟩
  simp only [List.cons_append, List.nil_append, List.map_cons, List.nodup_cons] at h1
  refine ⟨by simpa using h1, fun p hp => ?_⟩
  simp only [List.cons_append, List.nil_append, List.mem_cons] at hp
  rcases hp with rfl | hp
  · exact ⟨(h2 (b, o) (by simp)).1, hb⟩
  · have hp' := h2 p (by simp [hp])
    have hne : p.1 ≠ b := fun e => h1.1 (by rw [← e]; exact List.mem_map.2 ⟨p, hp, rfl⟩)
    exact ⟨hp'.1, by rw [hk p.1 hne (Array.getElem?_eq_some_iff.1 hp'.2).1]; exact hp'.2⟩
theorem Sat.new {B : Nat} {w w' : World} {o : Obj} {R : Hp} (h : Sat B w R) (hB : B ≤ w.heap.size) (hb : w'.heap[w.heap.size]? = some o)
    (hk : ∀ k, k < w.heap.size → w'.heap[k]? = w.heap[k]?) : Sat B w' (Sl.pt w.heap.size o + R) := by
  revert h; induction R using Hp.ind
  rintro ⟨h1, h2⟩
  refine ⟨?_, fun p hp => ?_⟩
  · simp only [List.cons_append, List.nil_append, List.map_cons, List.nodup_cons]
    refine ⟨fun hm => ?_, h1⟩
    obtain ⟨p, hp, e⟩ := List.mem_map.1 hm
    have := (Array.getElem?_eq_some_iff.1 (h2 p hp).2).1
    omega
  · simp only [List.cons_append, List.nil_append, List.mem_cons] at hp
    rcases hp with rfl | hp
    · exact ⟨hB, hb⟩
    · have hp' := h2 p hp
      exact ⟨hp'.1, by rw [hk p.1 (Array.getElem?_eq_some_iff.1 hp'.2).1]; exact hp'.2⟩

/-- The world w is w0 with new blocks; of these it holds L. -/
structure St (w0 w : World) (L : Hp) : Prop where
  below : Below w0.heap.size w0 w
  sat : Sat w0.heap.size w L
theorem St.left {w0 w : World} {a b : Hp} (h : St w0 w (a + b)) : St w0 w a := ⟨h.below, h.sat.left⟩
theorem St.right {w0 w : World} {a b : Hp} (h : St w0 w (a + b)) : St w0 w b := ⟨h.below, h.sat.right⟩
theorem St.drew {w0 w : World} {a : Hp} (h : St w0 w a) : St w0 w.drew a := ⟨h.below.drew, h.sat.mono fun _ _ _ => rfl⟩
theorem St.start (w0 : World) : St w0 w0 0 := ⟨Below.refl _ _, Sat.zero _ _⟩
theorem St.alloc {w0 w : World} {L : Hp} (h : St w0 w L) (o : Obj) : St w0 (w.alloc o) (pt w.heap.size o + L) :=
  ⟨h.below.alloc h.below.size o, h.sat.new h.below.size (heap_alloc_new w o) fun _ hk => heap_alloc_old w o hk⟩
theorem St.set {w0 w w' : World} {b : Nat} {o o' : Obj} {R : Hp} (h : St w0 w (pt b o + R)) (hb : w'.heap[b]? = some o')
    (hk : ∀ k, k ≠ b → w'.heap[k]? = w.heap[k]?) (hs : w.heap.size ≤ w'.heap.size) (ho : w'.os = w.os) (ht : w'.tape = w.tape) (hp : w'.output = w.output) : St w0 w' (pt b o' + R) :=
  ⟨h.below.trans ⟨ho, ht, hp, hs, fun k hk' => hk k (by have := h.sat.left.pt.1; omega)⟩, h.sat.set hb fun k hn _ => hk k hn⟩

/-! ### The environment of slots -/
abbrev Env := List (Nat × Value)
def look : Env → Nat → Option Value
  | [], _ => none
  | (d, v) :: g, t => if d = t then some v else look g t
def ev (g : Env) : Operand → Option Value
  | .tmp t => look g t
  | .const v => some v
  | .global k => some (.pointer (some ⟨k, 0, none⟩))
  | .func f => some (.func (.func f) #[] #[])
def evs (g : Env) : List Operand → Option (List Value)
  | [] => some []
  | x :: l => match ev g x, evs g l with
    | some v, some vs => some (v :: vs)
    | _, _ => none
structure Fits (n : Nat) (a : Act) (g : Env) : Prop where
  size : a.tmps.size = n
  nodefer : a.defers = []
  get : ∀ t v, look g t = some v → a.tmps[t]? = some v
theorem Fits.ev {n : Nat} {a : Act} {g : Env} (h : Fits n a g) {x : Operand} {v : Value} (hx : ev g x = some v) : a.eval x = v := by
  cases x with
  | tmp t => simp only [Sl.ev] at hx; have := h.get t v hx; simp [Act.eval, Array.getD_eq_getD_getElem?, this]
  | const c => simpa [Sl.ev, Act.eval] using hx
  | global k => simpa [Sl.ev, Act.eval] using hx
  | func f => simpa [Sl.ev, Act.eval] using hx
theorem Fits.evs {n : Nat} {a : Act} {g : Env} (h : Fits n a g) : ∀ {xs : List Operand} {vs : List Value}, Sl.evs g xs = some vs → xs.map a.eval = vs := by
  intro xs
  induction xs with
  | nil => intro vs hv; simpa [Sl.evs] using hv
  | cons x xs ih =>
    intro vs hv
    simp only [Sl.evs] at hv
    split at hv
    · rename_i v vs' h1 h2
      obtain rfl : v :: vs' = vs := by simpa using hv
      simp [h.ev h1, ih h2]
    · cases hv
def putE (g : Env) : Option Nat → Value → Env
  | some d, v => (d, v) :: g
  | none, _ => g
theorem Fits.put {n : Nat} {a : Act} {g : Env} (h : Fits n a g) {dst : Option Nat} (hd : dst.all (· < n) = true) (v : Value) : Fits n (a.put dst v) (putE g dst v) := by
  cases dst with
  | none => exact h
  | some d =>
    have hd' : d < n := by simpa using hd
    refine ⟨by simp [Act.put, h.size], h.nodefer, fun t u hu => ?_⟩
    simp only [putE, look] at hu
    simp only [Act.put, Array.getElem?_setIfInBounds]
    split at hu
    · rename_i e; subst e; rw [if_pos rfl, if_pos (by rw [h.size]; exact hd')]; exact hu
    · rename_i e; rw [if_neg e]; exact h.get t u hu
/-- Every slot that g' tells is told alike by g. -/
def Sub (g g' : Env) : Prop := ∀ t v, look g' t = some v → look g t = some v
theorem sub_nil (g : Env) : Sub g [] := fun _ _ h => by cases h
theorem sub_cons {g g' : Env} {t : Nat} {v : Value} (h : look g t = some v) (h' : Sub g g') : Sub g ((t, v) :: g') := fun t' v' h2 => by
  simp only [look] at h2
  split at h2
  · rename_i e; subst e; rw [h]; exact h2
  · exact h' t' v' h2
theorem Sub.refl (g : Env) : Sub g g := fun _ _ h => h
theorem Fits.sub {n : Nat} {a : Act} {g g' : Env} (h : Fits n a g) (s : Sub g g') : Fits n a g' := ⟨h.size, h.nodefer, fun t v hv => h.get t v (s t v hv)⟩

/-! ### The judgement -/
abbrev Post := Exit → Env → Hp → Prop
def lift (n : Nat) (w0 : World) (Q : Post) : Exit → Act → World → Prop := fun e a w => ∃ g L, Q e g L ∧ Fits n a g ∧ St w0 w L
def Hold (P : Program) (n : Nat) (w0 : World) (c : Code) (Q : Post) (g : Env) (L : Hp) : Prop :=
  ∀ a w, Fits n a g → St w0 w L → c.wp P (lift n w0 Q) a w
def HoldL (P : Program) (n : Nat) (w0 : World) (ops : Array Oper) (rest : List Oper) (Q : Post) (g : Env) (L : Hp) : Prop :=
  ∀ a w, Fits n a g → St w0 w L → wpList P ops (lift n w0 Q) rest a w
/-- A call: from any world that holds 'pre' and a frame, it returns; 'post' of what it returns and of the heap that it leaves in the place of 'pre'. -/
def Spec (P : Program) (w0 : World) (f : FuncId) (args : List Value) (pre : Hp) (post : Value → Hp → Prop) : Prop :=
  ∀ w fr, St w0 w (pre + fr) → Calls P f args.toArray w fun e w' => ∃ v h, e = .returned v ∧ post v h ∧ St w0 w' (h + fr)
def seqQ (P : Program) (n : Nat) (w0 : World) (y : Code) (Q : Post) : Post
  | .normal, g, L => Hold P n w0 y Q g L
  | e, g, L => Q e g L
def blockQ (id : Nat) (Q : Post) : Post
  | .exit id', g, L => if id' = id then Q .normal g L else Q (.exit id') g L
  | e, g, L => Q e g L
def loopQ (I : Nat → Env → Hp → Prop) (m : Nat) (Q : Post) : Post
  | .normal, g, L => ∃ m' g', m' < m ∧ Sub g g' ∧ I m' g' L
  | e, g, L => Q e g L
section
variable {P : Program} {n : Nat} {w0 : World} {Q : Post} {g : Env} {L : Hp}
theorem lift_mono {Q Q' : Exit → Act → World → Prop} (h : ∀ e a w, Q e a w → Q' e a w) {c : Code} {a : Act} {w : World} (hc : c.wp P Q a w) : c.wp P Q' a w := Code.wp_mono h hc
theorem hold_seq {x y : Code} (h : Hold P n w0 x (seqQ P n w0 y Q) g L) : Hold P n w0 (.seq x y) Q g L := by
  intro a w ha hw
  refine wp_seq (Code.wp_mono ?_ (h a w ha hw))
  rintro e a' w' ⟨g', L', hq, ha', hw'⟩
  cases e <;> first | exact hq a' w' ha' hw' | exact ⟨g', L', hq, ha', hw'⟩
theorem hold_skip (h : Q .normal g L) : Hold P n w0 .skip Q g L := fun _ _ ha hw => wp_skip ⟨g, L, h, ha, hw⟩
theorem hold_ret (h : Q .ret g L) : Hold P n w0 .ret Q g L := fun _ _ ha hw => wp_ret ⟨g, L, h, ha, hw⟩
theorem hold_exit {id : Nat} (h : Q (.exit id) g L) : Hold P n w0 (.exit id) Q g L := fun _ _ ha hw => wp_exit ⟨g, L, h, ha, hw⟩
theorem hold_label {l : Nat} (h : Q .normal g L) : Hold P n w0 (.label l) Q g L := fun _ _ ha hw => wp_label ⟨g, L, h, ha, hw⟩
theorem hold_block {id : Nat} {c : Code} (h : Hold P n w0 c (blockQ id Q) g L) : Hold P n w0 (.block id c) Q g L := by
  intro a w ha hw
  refine wp_block (Code.wp_mono ?_ (h a w ha hw))
  rintro e a' w' ⟨g', L', hq, ha', hw'⟩
  cases e with
  | exit id' =>
    simp only [blockQ] at hq
    simp only [Exit.inBlock]
    split at hq
    · rename_i e; rw [if_pos e]; exact ⟨g', L', hq, ha', hw'⟩
    · rename_i e; rw [if_neg e]; exact ⟨g', L', hq, ha', hw'⟩
  | _ => exact ⟨g', L', hq, ha', hw'⟩
theorem hold_cond {c : Operand} {x y : Code} {t : Bool} (hc : ev g c = some (.bool t)) (ht : t = true → Hold P n w0 x Q g L) (hf : t = false → Hold P n w0 y Q g L) :
    Hold P n w0 (.cond c x y) Q g L := by
  intro a w ha hw
  exact wp_cond_split (ha.ev hc) (fun e => ht e a w ha hw) (fun e => hf e a w ha hw)
theorem hold_env {c : Code} {g' : Env} (s : Sub g g') (h : Hold P n w0 c Q g' L) : Hold P n w0 c Q g L := fun a w ha hw => h a w (ha.sub s) hw
theorem hold_heap {c : Code} {R : Hp} (L' : Hp) (e : L = L' + R) (h : Hold P n w0 c Q g L') : Hold P n w0 c Q g L := fun a w ha hw => h a w ha (by subst e; exact hw.left)
theorem hold_mono {c : Code} {Q' : Post} (hq : ∀ e g L, Q' e g L → Q e g L) (h : Hold P n w0 c Q' g L) : Hold P n w0 c Q g L := fun a w ha hw =>
  Code.wp_mono (fun e _ _ ⟨g', L', hq', ha', hw'⟩ => ⟨g', L', hq e g' L' hq', ha', hw'⟩) (h a w ha hw)
theorem hold_loop {c : Code} (I : Nat → Env → Hp → Prop) (m : Nat) (g' : Env) (h0 : I m g' L) (hs : Sub g g') (round : ∀ m g L, I m g L → Hold P n w0 c (loopQ I m Q) g L) :
    Hold P n w0 (.loop c) Q g L := by
  intro a w ha hw b k cs
  have key : ∀ m a w, (∃ g L, I m g L ∧ Fits n a g ∧ St w0 w L) →
      ∃ e a' w', lift n w0 Q e a' w' ∧ Arrives P (lone (b.at a (.code c :: .inLoop c :: k)) cs w) b k cs e a' w' := by
    intro m
    induction m using Nat.strongRecOn with
    | _ m ih =>
      rintro a w ⟨g, L, hI, hfa, hst⟩
      obtain ⟨e, a1, w1, ⟨g1, L1, hq, ha1, hw1⟩, harr⟩ := round m g L hI a w hfa hst b (.inLoop c :: k) cs
      cases e with
      | normal =>
        obtain ⟨m', g2, hlt, hsub, hI1⟩ := hq
        obtain ⟨e2, a2, w2, hq2, harr2⟩ := ih m' hlt a1 w1 ⟨g2, L1, hI1, ha1.sub hsub, hw1⟩
        exact ⟨e2, a2, w2, hq2, .of_steps (Steps.trans harr (.one step_inLoop)) harr2⟩
      | exit id => exact ⟨_, a1, w1, ⟨g1, L1, hq, ha1, hw1⟩, .pass (x := .inLoop c) rfl (fun _ _ => .inl (by simp)) harr⟩
      | goto l => exact ⟨_, a1, w1, ⟨g1, L1, hq, ha1, hw1⟩, .pass (x := .inLoop c) rfl (fun _ _ => .inl (by simp)) harr⟩
      | ret => exact ⟨_, a1, w1, ⟨g1, L1, hq, ha1, hw1⟩, .pass (x := .inLoop c) rfl (fun _ _ => .inl (by simp)) harr⟩
      | panic ch => exact ⟨_, a1, w1, ⟨g1, L1, hq, ha1, hw1⟩, .pass (x := .inLoop c) rfl (fun _ _ => .inl (by simp)) harr⟩
      | outgrown => exact ⟨_, a1, w1, ⟨g1, L1, hq, ha1, hw1⟩, .pass (x := .inLoop c) rfl (fun _ _ => .inl (by simp)) harr⟩
  obtain ⟨e, a', w', hq, harr⟩ := key m a w ⟨g', L, h0, ha.sub hs, hw⟩
  exact ⟨e, a', w', hq, .of_steps (.one step_loop) harr⟩
theorem hold_region {id : Nat} {ops : Array Oper} (h : HoldL P n w0 ops ops.toList Q g L) : Hold P n w0 (.region id ops false) Q g L :=
  fun a w ha hw => wp_region_list (h a w ha hw)
theorem hold_region_lit {id : Nat} {l : List Oper} (h : HoldL P n w0 l.toArray l Q g L) : Hold P n w0 (.region id l.toArray false) Q g L := hold_region h
theorem hold_cond_t {c : Operand} {x y : Code} (hc : ev g c = some (.bool true)) (h : Hold P n w0 x Q g L) : Hold P n w0 (.cond c x y) Q g L := hold_cond hc (fun _ => h) (fun h => by cases h)
theorem hold_cond_f {c : Operand} {x y : Code} (hc : ev g c = some (.bool false)) (h : Hold P n w0 y Q g L) : Hold P n w0 (.cond c x y) Q g L := hold_cond hc (fun h => by cases h) (fun _ => h)
theorem holdL_nil {ops : Array Oper} (h : Q .normal g L) : HoldL P n w0 ops [] Q g L := fun _ _ ha hw => ⟨g, L, h, ha, hw⟩
theorem holdL_env {ops : Array Oper} {rest : List Oper} {g' : Env} (s : Sub g g') (h : HoldL P n w0 ops rest Q g' L) : HoldL P n w0 ops rest Q g L := fun a w ha hw => h a w (ha.sub s) hw
theorem holdL_heap {ops : Array Oper} {rest : List Oper} {R : Hp} (L' : Hp) (e : L = L' + R) (h : HoldL P n w0 ops rest Q g L') : HoldL P n w0 ops rest Q g L := fun a w ha hw => h a w ha (by subst e; exact hw.left)
end

/-! ### Calls -/
def oneV : List Value → Value
  | [v] => v
  | l => .tuple l.toArray
/-- In every world that w0 and L allow, the variable of type t at ad holds v. -/
def Loads (P : Program) (w0 : World) (L : Hp) (t : TypeId) (ad : Addr) (v : Value) : Prop :=
  ∀ w, St w0 w L → (loadVar t ad).run P w = .ok v w
def ResOk (P : Program) (w0 : World) (g : Env) (L : Hp) : List ResultVar → List Value → Prop
  | [], [] => True
  | .tmp t :: rs, v :: vs => look g t = some v ∧ ResOk P w0 g L rs vs
  | .cell b t :: rs, v :: vs => (∃ ad, look g b = some (.pointer (some ad)) ∧ Loads P w0 L t ad v) ∧ ResOk P w0 g L rs vs
  | _, _ => False
def retQ (P : Program) (w0 : World) (rs : List ResultVar) (fr : Hp) (post : Value → Hp → Prop) : Post
  | .normal, g, L | .ret, g, L => ∃ vs h, ResOk P w0 g L rs vs ∧ post (oneV vs) h ∧ L = h + fr
  | _, _, _ => False
def argE : Nat → List Value → Env
  | _, [] => []
  | k, v :: l => (k, v) :: argE (k + 1) l
theorem look_argE : ∀ (l : List Value) (k t : Nat) (v : Value), look (argE k l) t = some v → k ≤ t ∧ l[t - k]? = some v := by
  intro l
  induction l with
  | nil => intro k t v h; cases h
  | cons x l ih =>
    intro k t v h
    simp only [argE, look] at h
    split at h
    · rename_i e; subst e; simpa using h
    · rename_i e
      obtain ⟨h1, h2⟩ := ih (k + 1) t v h
      refine ⟨by omega, ?_⟩
      rw [show t - k = (t - (k + 1)) + 1 by omega]
      simpa using h2
def resOne (tmps : Array Value) : ResultVar → Sem Value
  | .tmp t => pure (tmps.getD t undef)
  | .cell b t => do loadVar t (← asAddr (tmps.getD b undef))
theorem results_eq (fn : Func) (tmps : Array Value) : results fn tmps = (do let vs ← fn.results.mapM (resOne tmps); pure (if h : vs.size = 1 then vs[0] else .tuple vs)) := by
  unfold results
  congr 1
theorem resOk_run {P : Program} {w0 w : World} {n : Nat} {a : Act} {g : Env} {L : Hp} (ha : Fits n a g) (hw : St w0 w L) (fn : Func) (rs : List ResultVar) (hr : fn.results = rs.toArray)
    {vs : List Value} (h : ResOk P w0 g L rs vs) : (results fn a.tmps).run P w = .ok (oneV vs) w := by
  have key : ∀ (rs : List ResultVar) (vs : List Value), ResOk P w0 g L rs vs →
      (rs.mapM (resOne a.tmps)).run P w = .ok vs w := by
    intro rs
    induction rs with
    | nil => intro vs h; cases vs with
      | nil => simp
      | cons => simp [ResOk] at h
    | cons r rs ih =>
      intro vs h
      cases vs with
      | nil => cases r <;> simp [ResOk] at h
      | cons v vs =>
        cases r with
        | tmp t =>
          have hv : a.tmps.getD t undef = v := by simp [Array.getD_eq_getD_getElem?, ha.get t v h.1]
          have := ih vs h.2
          simp only [List.mapM_cons, resOne, hv, Sem.run_bind, Sem.run_pure, Result.andThen_ok, this]
        | cell b t =>
          obtain ⟨⟨ad, h1, h2⟩, h3⟩ := h
          have hv : a.tmps.getD b undef = .pointer (some ad) := by simp [Array.getD_eq_getD_getElem?, ha.get b _ h1]
          have := ih vs h3
          have e1 : asAddr (.pointer (some ad)) = (pure ad : Sem Addr) := rfl
          simp only [List.mapM_cons, resOne, hv, e1, pure_bind, Sem.run_bind, Sem.run_pure, Result.andThen_ok, this, h2 w hw]
  have e := key rs vs h
  rw [results_eq, hr, List.mapM_toArray]
  simp only [Sem.run_bind, Sem.run_map, e, Result.andThen_ok, Sem.run_pure]
  match vs with
  | [] => rfl
  | [v] => rfl
  | v :: u :: l => simp [oneV]
theorem spec_of_hold {P : Program} {w0 : World} {f : FuncId} {fn : Func} {c : Code} {n : Nat} {args : List Value} {rs : List ResultVar} {pre : Hp} {post : Value → Hp → Prop}
    (hf : P.funcs[f]? = some fn) (hb : fn.body = some c) (hn : fn.ntmps = n) (hr : fn.results = rs.toArray) (hargs : decide (args.length ≤ n) = true)
    (h : ∀ fr, Hold P n w0 c (retQ P w0 rs fr post) (argE 0 args) (pre + fr)) : Spec P w0 f args pre post := by
  intro w fr hst
  have hle : args.length ≤ n := of_decide_eq_true hargs
  refine calls_of_wp hf hb (Code.wp_mono ?_ (h fr { tmps := args.toArray ++ Array.replicate (fn.ntmps - args.toArray.size) undef, defers := [] } w ⟨by simp [hn]; omega, rfl, fun t v ht => ?_⟩ hst))
  · rintro e a' w' ⟨g, L, hq, ha', hw'⟩
    cases e with
    | normal => obtain ⟨vs, h', h1, h2, rfl⟩ := hq; exact ⟨ha'.nodefer, _, resOk_run ha' hw' fn rs hr h1, _, h', rfl, h2, hw'⟩
    | ret => obtain ⟨vs, h', h1, h2, rfl⟩ := hq; exact ⟨ha'.nodefer, _, resOk_run ha' hw' fn rs hr h1, _, h', rfl, h2, hw'⟩
    | _ => exact hq.elim
  · have := (look_argE args 0 t v ht).2
    simp only [Nat.sub_zero] at this
    have hlt := (List.getElem?_eq_some_iff.1 this).1
    rw [List.getElem?_eq_getElem hlt] at this
    simp [Array.getElem?_append, hlt, Option.some.inj this]

/-- The same, where something made on the way is let go. -/
def retD (P : Program) (w0 : World) (rs : List ResultVar) (fr : Hp) (post : Value → Hp → Prop) : Post
  | .normal, g, L | .ret, g, L => ∃ vs h R, ResOk P w0 g L rs vs ∧ post (oneV vs) h ∧ L = h + fr + R
  | _, _, _ => False
theorem spec_of_hold_d {P : Program} {w0 : World} {f : FuncId} {fn : Func} {c : Code} {n : Nat} {args : List Value} {rs : List ResultVar} {pre : Hp} {post : Value → Hp → Prop}
    (hf : P.funcs[f]? = some fn) (hb : fn.body = some c) (hn : fn.ntmps = n) (hr : fn.results = rs.toArray) (hargs : decide (args.length ≤ n) = true)
    (h : ∀ fr, Hold P n w0 c (retD P w0 rs fr post) (argE 0 args) (pre + fr)) : Spec P w0 f args pre post := by
  intro w fr hst
  have hle : args.length ≤ n := of_decide_eq_true hargs
  refine calls_of_wp hf hb (Code.wp_mono ?_ (h fr { tmps := args.toArray ++ Array.replicate (fn.ntmps - args.toArray.size) undef, defers := [] } w ⟨by simp [hn]; omega, rfl, fun t v ht => ?_⟩ hst))
  · rintro e a' w' ⟨g, L, hq, ha', hw'⟩
    cases e with
    | normal => obtain ⟨vs, h', R, h1, h2, rfl⟩ := hq; exact ⟨ha'.nodefer, _, resOk_run ha' hw' fn rs hr h1, _, h', rfl, h2, hw'.left⟩
    | ret => obtain ⟨vs, h', R, h1, h2, rfl⟩ := hq; exact ⟨ha'.nodefer, _, resOk_run ha' hw' fn rs hr h1, _, h', rfl, h2, hw'.left⟩
    | _ => exact hq.elim
  · have := (look_argE args 0 t v ht).2
    simp only [Nat.sub_zero] at this
    have hlt := (List.getElem?_eq_some_iff.1 this).1
    rw [List.getElem?_eq_getElem hlt] at this
    simp [Array.getElem?_append, hlt, Option.some.inj this]

end Sl
end Go.Proofs.Ytdbmmnpnhpiecaa
