/-
  What shardMoved.proved hangs on, part 7 of 8.
-/
import Derived.Test.YtpkealohodeifaaGreatMo6
import Derived.Test.YtpkealohodeifaaGreatMo1
import Derived.Deep.Slices
import Derived.Deep.Strs
import Derived.Lib.SmallJoins
import Derived.ChangeArms
import Derived.SizedLaws
import Derived.Test.YtpkealohodeifaaGreatRows
import Derived.WalkKit
import Derived.ProofKit
import Derived.OpenShut
import Derived.ShutString
import Derived.ChangeOld
import Derived.Below
set_option linter.unusedVariables false
set_option linter.unusedSimpArgs false
namespace Go.Proofs.YtpkealohodeifaaGreat
open Go Go.RowKit
namespace Sl
set_option maxHeartbeats 16000000
set_option maxRecDepth 4000
set_option synthInstance.maxHeartbeats 400000
set_option synthInstance.maxSize 100000
attribute [local irreducible] Hold HoldL HoldW
theorem take_more {α : Type} {xs ys : List α} {k : Nat} (hx : k < xs.length) (hy : k < ys.length) (h : xs.take k = ys.take k) (e : xs[k] = ys[k]) : xs.take (k + 1) = ys.take (k + 1) := by
 rw [List.take_succ_eq_append_getElem hx,List.take_succ_eq_append_getElem hy,h,e]
theorem sameB_spec (w0 : World) (X : Hp) (v u : Value) (xs ys : List Bt) (hv : RdL w0 X v xs) (hu : RdL w0 X u ys) (hl : xs.length ≤ 1000000000) (hl2 : ys.length ≤ 1000000000) :
  Spec Tryz.prog w0 19 [v,u] X (fun r h' => r = .bool (decide (xs = ys)) ∧ X = h') := by
 obtain ⟨a,c,rfl⟩ := hv.shape
 obtain ⟨a2,c2,rfl⟩ := hu.shape
 refine zN Tryz.func19 rfl Tryz.ntmps19 Tryz.results19 rfl fun fr => ?_
 repeat (first | refine zF ?_ | refine zB ?_ | refine zE ?_ | refine zK rfl rfl rfl ?_ | refine L_len rfl rfl rfl ?_)
 refine yG rfl rfl (pv_neq rfl rfl) (fun n1 => ?_) (fun n1 => ?_)
 ·repeat (first | refine zF ?_ | refine zB ?_ | refine zE ?_ | refine zK rfl rfl rfl ?_ | refine zM ?_ | refine zJ rfl ?_)
  exact ⟨[_],X,_,⟨rfl,trivial⟩,⟨bool_F (fun h => n1 (by rw [h])),rfl⟩,yK.out⟩
 ·have hll : xs.length = ys.length := by omega
  repeat (first | refine zF ?_ | refine zR ?_ | refine zB ?_ | refine zE ?_ | refine zK rfl rfl rfl ?_ | refine zP ?_ | refine zI rfl ?_)
  refine hold_count xs.length (fun k g L => ∃ (R : Hp),g = [(0,.slice a xs.length c),(1,.slice a2 ys.length c2),(5,.int .i64 k)] ∧ xs.take k = ys.take k ∧ L = X + fr + R) _ ⟨0,rfl,by simp,(yB _).symm⟩ (by repeat (first | exact zT _ | refine zO rfl ?_)) ?_
  rintro k g L hk ⟨R,rfl,hpre,rfl⟩
  repeat (first | refine zF ?_ | refine zB ?_ | refine zK rfl rfl rfl ?_ | refine L_len rfl rfl rfl ?_)
  refine yG rfl rfl (pv_lss rfl rfl) (fun n2 => ?_) (fun n2 => ?_)
  ·have hx : k < xs.length := by omega
   have hy : k < ys.length := by omega
   obtain ⟨b2,o2,rfl,e,rfl,hat⟩ := hv.at hx
   obtain ⟨b3,o3,rfl,e',rfl,hat'⟩ := hu.at hy
   repeat (first | refine zF ?_ | refine zR ?_ | refine zE ?_ | refine zP ?_ | refine zJ rfl ?_)
   refine yC [] [0,1,2,3,4,5,6,7,8] (by kernel_rfl) rfl (by kernel_rfl) (by kernel_rfl) ?_
   repeat (first | refine yI rfl rfl rfl rfl rfl ?_ | refine W_idx rfl rfl rfl (by omega) rfl rfl rfl ?_ | refine W_at rfl rfl (by assumption) rfl rfl rfl rfl rfl ?_)
   refine W_dec rfl rfl rfl rfl (pv_neq rfl rfl) (fun n3 => ?_) (fun n3 => ?_)
   ·repeat (refine yJ ?_)
    repeat (first | refine zF ?_ | refine zB ?_ | refine zE ?_ | refine zK rfl rfl rfl ?_ | refine zM ?_ | refine zJ rfl ?_)
    exact ⟨[_],X,_,⟨rfl,trivial⟩,⟨bool_F (fun h => n3 (by subst h; rfl)),rfl⟩,yK.out⟩
   ·have e : xs[k] = ys[k] := Fin.ext (by omega)
    repeat (refine yJ ?_)
    repeat (first | refine zB ?_ | refine zE ?_ | refine zK rfl rfl rfl ?_ | refine zP ?_ | refine zI rfl ?_ | refine L_add rfl rfl (by omega) (by omega) rfl rfl ?_)
    exact ⟨hx,_,(by repeat (first | exact zT _ | refine zO rfl ?_)),_,rfl,take_more hx hy hpre e,yK.out⟩
  ·repeat (first | refine zF ?_ | refine yD ?_ | refine zB ?_ | refine zE ?_ | refine zK rfl rfl rfl ?_ | refine zM ?_ | refine zI rfl ?_)
   rw [List.take_of_length_le (by omega),List.take_of_length_le (by omega)] at hpre
   exact ⟨[_],X,_,⟨rfl,trivial⟩,⟨bool_T hpre,rfl⟩,yK.out⟩
theorem sameI_spec (w0 : World) (X : Hp) (v u : Value) (xs ys : List Int) (hv : RdL w0 X v xs) (hu : RdL w0 X u ys) (hl : xs.length ≤ 1000000000) (hl2 : ys.length ≤ 1000000000) :
  Spec Tryz.prog w0 45 [v,u] X (fun r h' => r = .bool (decide (xs = ys)) ∧ X = h') := by
 obtain ⟨a,c,rfl⟩ := hv.shape
 obtain ⟨a2,c2,rfl⟩ := hu.shape
 refine zN Tryz.func45 rfl Tryz.ntmps45 Tryz.results45 rfl fun fr => ?_
 repeat (first | refine zF ?_ | refine zB ?_ | refine zE ?_ | refine zK rfl rfl rfl ?_ | refine L_len rfl rfl rfl ?_)
 refine yG rfl rfl (pv_neq rfl rfl) (fun n1 => ?_) (fun n1 => ?_)
 ·repeat (first | refine zF ?_ | refine zB ?_ | refine zE ?_ | refine zK rfl rfl rfl ?_ | refine zM ?_ | refine zJ rfl ?_)
  exact ⟨[_],X,_,⟨rfl,trivial⟩,⟨bool_F (fun h => n1 (by rw [h])),rfl⟩,yK.out⟩
 ·have hll : xs.length = ys.length := by omega
  repeat (first | refine zF ?_ | refine zR ?_ | refine zB ?_ | refine zE ?_ | refine zK rfl rfl rfl ?_ | refine zP ?_ | refine zI rfl ?_)
  refine hold_count xs.length (fun k g L => ∃ (R : Hp),g = [(0,.slice a xs.length c),(1,.slice a2 ys.length c2),(5,.int .i64 k)] ∧ xs.take k = ys.take k ∧ L = X + fr + R) _ ⟨0,rfl,by simp,(yB _).symm⟩ (by repeat (first | exact zT _ | refine zO rfl ?_)) ?_
  rintro k g L hk ⟨R,rfl,hpre,rfl⟩
  repeat (first | refine zF ?_ | refine zB ?_ | refine zK rfl rfl rfl ?_ | refine L_len rfl rfl rfl ?_)
  refine yG rfl rfl (pv_lss rfl rfl) (fun n2 => ?_) (fun n2 => ?_)
  ·have hx : k < xs.length := by omega
   have hy : k < ys.length := by omega
   obtain ⟨b2,o2,rfl,e,rfl,hat⟩ := hv.at hx
   obtain ⟨b3,o3,rfl,e',rfl,hat'⟩ := hu.at hy
   repeat (first | refine zF ?_ | refine zR ?_ | refine zE ?_ | refine zP ?_ | refine zJ rfl ?_)
   refine yC [] [0,1,2,3,4,5,6,7,8] (by kernel_rfl) rfl (by kernel_rfl) (by kernel_rfl) ?_
   repeat (first | refine yI rfl rfl rfl rfl rfl ?_ | refine W_idx rfl rfl rfl (by omega) rfl rfl rfl ?_ | refine W_at rfl rfl (by assumption) rfl rfl rfl rfl rfl ?_)
   refine W_dec rfl rfl rfl rfl (pv_neq rfl rfl) (fun n3 => ?_) (fun n3 => ?_)
   ·repeat (refine yJ ?_)
    repeat (first | refine zF ?_ | refine zB ?_ | refine zE ?_ | refine zK rfl rfl rfl ?_ | refine zM ?_ | refine zJ rfl ?_)
    exact ⟨[_],X,_,⟨rfl,trivial⟩,⟨bool_F (fun h => n3 (by subst h; rfl)),rfl⟩,yK.out⟩
   ·have e : xs[k] = ys[k] := Classical.byContradiction n3
    repeat (refine yJ ?_)
    repeat (first | refine zB ?_ | refine zE ?_ | refine zK rfl rfl rfl ?_ | refine zP ?_ | refine zI rfl ?_ | refine L_add rfl rfl (by omega) (by omega) rfl rfl ?_)
    exact ⟨hx,_,(by repeat (first | exact zT _ | refine zO rfl ?_)),_,rfl,take_more hx hy hpre e,yK.out⟩
  ·repeat (first | refine zF ?_ | refine yD ?_ | refine zB ?_ | refine zE ?_ | refine zK rfl rfl rfl ?_ | refine zM ?_ | refine zI rfl ?_)
   rw [List.take_of_length_le (by omega),List.take_of_length_le (by omega)] at hpre
   exact ⟨[_],X,_,⟨rfl,trivial⟩,⟨bool_T hpre,rfl⟩,yK.out⟩
theorem sameL_spec (w0 : World) (X : Hp) (v u : Value) (xs ys : List Lk) (hv : RdL w0 X v xs) (hu : RdL w0 X u ys) (hl : xs.length ≤ 1000000000) (hl2 : ys.length ≤ 1000000000) :
  Spec Tryz.prog w0 74 [v,u] X (fun r h' => r = .bool (decide (xs = ys)) ∧ X = h') := by
 obtain ⟨a,c,rfl⟩ := hv.shape
 obtain ⟨a2,c2,rfl⟩ := hu.shape
 refine zN Tryz.func74 rfl Tryz.ntmps74 Tryz.results74 rfl fun fr => ?_
 repeat (first | refine zF ?_ | refine zB ?_ | refine zE ?_ | refine zK rfl rfl rfl ?_ | refine L_len rfl rfl rfl ?_)
 refine yG rfl rfl (pv_neq rfl rfl) (fun n1 => ?_) (fun n1 => ?_)
 ·repeat (first | refine zF ?_ | refine zB ?_ | refine zE ?_ | refine zK rfl rfl rfl ?_ | refine zM ?_ | refine zJ rfl ?_)
  exact ⟨[_],X,_,⟨rfl,trivial⟩,⟨bool_F (fun h => n1 (by rw [h])),rfl⟩,yK.out⟩
 ·have hll : xs.length = ys.length := by omega
  repeat (first | refine zF ?_ | refine zR ?_ | refine zB ?_ | refine zE ?_ | refine zK rfl rfl rfl ?_ | refine zP ?_ | refine zI rfl ?_)
  refine hold_count xs.length (fun k g L => ∃ (R : Hp),g = [(0,.slice a xs.length c),(1,.slice a2 ys.length c2),(5,.int .i64 k)] ∧ xs.take k = ys.take k ∧ L = X + fr + R) _ ⟨0,rfl,by simp,(yB _).symm⟩ (by repeat (first | exact zT _ | refine zO rfl ?_)) ?_
  rintro k g L hk ⟨R,rfl,hpre,rfl⟩
  repeat (first | refine zF ?_ | refine zB ?_ | refine zK rfl rfl rfl ?_ | refine L_len rfl rfl rfl ?_)
  refine yG rfl rfl (pv_lss rfl rfl) (fun n2 => ?_) (fun n2 => ?_)
  ·have hx : k < xs.length := by omega
   have hy : k < ys.length := by omega
   obtain ⟨b2,o2,rfl,e,rfl,hat⟩ := hv.at hx
   obtain ⟨b3,o3,rfl,e',rfl,hat'⟩ := hu.at hy
   repeat (first | refine zF ?_ | refine zR ?_ | refine zE ?_ | refine zP ?_ | refine zJ rfl ?_)
   refine yC [] [0,1,2,3,4,5,6,7,8] (by kernel_rfl) rfl (by kernel_rfl) (by kernel_rfl) ?_
   repeat (first | refine yI rfl rfl rfl rfl rfl ?_ | refine W_idx rfl rfl rfl (by omega) rfl rfl rfl ?_ | refine W_atA rfl rfl (by assumption) rfl rfl rfl rfl rfl ?_)
   refine W_bool rfl rfl rfl rfl (pv_neq_struct (r := (decide (xs[k].block = ys[k].block) && (decide (xs[k].txn = ys[k].txn) && (decide (xs[k].age = ys[k].age) && ((xs[k].write == ys[k].write) && true))))) rfl rfl (by kernel_rfl) (by kernel_rfl) (by kernel_rfl)) (fun h3 => ?_) (fun h3 => ?_)
   ·repeat (refine yJ ?_)
    repeat (first | refine zF ?_ | refine zB ?_ | refine zE ?_ | refine zK rfl rfl rfl ?_ | refine zM ?_ | refine zJ rfl ?_)
    exact ⟨[_],X,_,⟨rfl,trivial⟩,⟨bool_F (fun h => by subst h; simp at h3),rfl⟩,yK.out⟩
   ·have e : xs[k] = ys[k] := by
     simp only [Bool.not_eq_false',Bool.and_eq_true,decide_eq_true_eq,beq_iff_eq,and_true] at h3
     obtain ⟨e1,e2,e3,e4⟩ := h3
     have : ∀ a b : Lk,a.block = b.block → a.txn = b.txn → a.age = b.age → a.write = b.write → a = b := by
      rintro ⟨_,_,_,_⟩ ⟨_,_,_,_⟩ rfl rfl rfl rfl; rfl
     exact this _ _ e1 e2 e3 e4
    repeat (refine yJ ?_)
    repeat (first | refine zB ?_ | refine zE ?_ | refine zK rfl rfl rfl ?_ | refine zP ?_ | refine zI rfl ?_ | refine L_add rfl rfl (by omega) (by omega) rfl rfl ?_)
    exact ⟨hx,_,(by repeat (first | exact zT _ | refine zO rfl ?_)),_,rfl,take_more hx hy hpre e,yK.out⟩
  ·repeat (first | refine zF ?_ | refine yD ?_ | refine zB ?_ | refine zE ?_ | refine zK rfl rfl rfl ?_ | refine zM ?_ | refine zI rfl ?_)
   rw [List.take_of_length_le (by omega),List.take_of_length_le (by omega)] at hpre
   exact ⟨[_],X,_,⟨rfl,trivial⟩,⟨bool_T hpre,rfl⟩,yK.out⟩
theorem sameBlk1_spec (w0 : World) (X : Hp) (x y : Blk) (e f : List Value) (he : Rep.rd w0 X x e) (hf : Rep.rd w0 X y f) (hx : x.data.length ≤ 1000000000) (hy : y.data.length ≤ 1000000000) :
  Spec Tryz.prog w0 106 [.agg e.toArray,.agg f.toArray] X (fun r h' => r = .bool (decide (x = y)) ∧ X = h') := by
 obtain ⟨a,c,rfl,rx⟩ := he
 obtain ⟨a2,c2,rfl,ry⟩ := hf
 refine zN Tryz.func106 rfl Tryz.ntmps106 Tryz.results106 rfl fun fr => ?_
 repeat (first | refine zF ?_ | refine zB ?_ | refine zE ?_ | refine zK rfl rfl rfl ?_ | refine zZ rfl rfl rfl rfl rfl ?_ | refine L_ld rfl rfl rfl rfl rfl ?_ | refine L_box rfl (c := [_,_]) rfl rfl rfl (fun _ => ?_))
 refine yG rfl rfl (pv_eql rfl rfl) (fun q0 => ?_) (fun q0 => ?_)
 rotate_left
 ·repeat (first | refine zE ?_ | refine zK rfl rfl rfl ?_ | refine L_skip rfl rfl ?_ | refine zM ?_)
  exact ⟨[_],X,_,⟨rfl,trivial⟩,⟨bool_F (fun h => q0 (by rw [h])),rfl⟩,yK.out⟩
 ·repeat (first | refine zK rfl rfl rfl ?_ | refine zZ rfl rfl rfl rfl rfl ?_ | refine L_ld rfl rfl rfl rfl rfl ?_)
  skip
  refine zY rfl rfl (zQ rfl rfl rfl) (sameB_spec w0 X _ _ x.data y.data rx ry hx hy) ?_
  rintro _ _ ⟨rfl,rfl⟩
  by_cases c0 : x.data = y.data
  rotate_left
  ·rw [decide_eq_false c0]
   repeat (first | refine zE ?_ | refine zK rfl rfl rfl ?_ | refine zM ?_)
   exact ⟨[_],X,_,⟨rfl,trivial⟩,⟨bool_F (fun h => c0 (by rw [h])),rfl⟩,yK.out⟩
  ·rw [decide_eq_true c0]
   repeat (first | refine zE ?_ | refine zK rfl rfl rfl ?_ | refine zM ?_)
   exact ⟨[_],X,_,⟨rfl,trivial⟩,⟨bool_T (by cases x; cases y; simp only at q0 c0; subst q0 c0; rfl),rfl⟩,yK.out⟩
theorem sameWr1_spec (w0 : World) (X : Hp) (x y : Wr) (e f : List Value) (he : Rep.rd w0 X x e) (hf : Rep.rd w0 X y f) (hx : x.data.length ≤ 1000000000) (hy : y.data.length ≤ 1000000000) :
  Spec Tryz.prog w0 224 [.agg e.toArray,.agg f.toArray] X (fun r h' => r = .bool (decide (x = y)) ∧ X = h') := by
 obtain ⟨a,c,rfl,rx⟩ := he
 obtain ⟨a2,c2,rfl,ry⟩ := hf
 refine zN Tryz.func224 rfl Tryz.ntmps224 Tryz.results224 rfl fun fr => ?_
 repeat (first | refine zF ?_ | refine zB ?_ | refine zE ?_ | refine zK rfl rfl rfl ?_ | refine zZ rfl rfl rfl rfl rfl ?_ | refine L_ld rfl rfl rfl rfl rfl ?_ | refine L_box rfl (c := [_,_]) rfl rfl rfl (fun _ => ?_))
 refine yG rfl rfl (pv_eql rfl rfl) (fun q0 => ?_) (fun q0 => ?_)
 rotate_left
 ·repeat (first | refine zE ?_ | refine zK rfl rfl rfl ?_ | refine L_skip rfl rfl ?_ | refine zM ?_)
  exact ⟨[_],X,_,⟨rfl,trivial⟩,⟨bool_F (fun h => q0 (by rw [h])),rfl⟩,yK.out⟩
 ·repeat (first | refine zK rfl rfl rfl ?_ | refine zZ rfl rfl rfl rfl rfl ?_ | refine L_ld rfl rfl rfl rfl rfl ?_)
  skip
  refine zY rfl rfl (zQ rfl rfl rfl) (sameB_spec w0 X _ _ x.data y.data rx ry hx hy) ?_
  rintro _ _ ⟨rfl,rfl⟩
  by_cases c0 : x.data = y.data
  rotate_left
  ·rw [decide_eq_false c0]
   repeat (first | refine zE ?_ | refine zK rfl rfl rfl ?_ | refine zM ?_)
   exact ⟨[_],X,_,⟨rfl,trivial⟩,⟨bool_F (fun h => c0 (by rw [h])),rfl⟩,yK.out⟩
  ·rw [decide_eq_true c0]
   repeat (first | refine zE ?_ | refine zK rfl rfl rfl ?_ | refine zM ?_)
   exact ⟨[_],X,_,⟨rfl,trivial⟩,⟨bool_T (by cases x; cases y; simp only at q0 c0; subst q0 c0; rfl),rfl⟩,yK.out⟩
theorem sameKpt1_spec (w0 : World) (X : Hp) (x y : Kpt) (e f : List Value) (he : Rep.rd w0 X x e) (hf : Rep.rd w0 X y f) (hx : x.data.length ≤ 1000000000) (hy : y.data.length ≤ 1000000000) :
  Spec Tryz.prog w0 149 [.agg e.toArray,.agg f.toArray] X (fun r h' => r = .bool (decide (x = y)) ∧ X = h') := by
 obtain ⟨a,c,rfl,rx⟩ := he
 obtain ⟨a2,c2,rfl,ry⟩ := hf
 refine zN Tryz.func149 rfl Tryz.ntmps149 Tryz.results149 rfl fun fr => ?_
 repeat (first | refine zF ?_ | refine zB ?_ | refine zE ?_ | refine zK rfl rfl rfl ?_ | refine zZ rfl rfl rfl rfl rfl ?_ | refine L_ld rfl rfl rfl rfl rfl ?_ | refine L_box rfl (c := [_,_,_]) rfl rfl rfl (fun _ => ?_))
 refine yG rfl rfl (pv_eql rfl rfl) (fun q0 => ?_) (fun q0 => ?_)
 rotate_left
 ·repeat (first | refine zE ?_ | refine zK rfl rfl rfl ?_ | refine L_skip rfl rfl ?_ | refine zM ?_)
  exact ⟨[_],X,_,⟨rfl,trivial⟩,⟨bool_F (fun h => q0 (by rw [h])),rfl⟩,yK.out⟩
 ·repeat (first | refine zK rfl rfl rfl ?_ | refine zZ rfl rfl rfl rfl rfl ?_ | refine L_ld rfl rfl rfl rfl rfl ?_)
  skip
  refine yG rfl rfl (pv_eql rfl rfl) (fun q1 => ?_) (fun q1 => ?_)
  rotate_left
  ·repeat (first | refine zE ?_ | refine zK rfl rfl rfl ?_ | refine L_skip rfl rfl ?_ | refine zM ?_)
   exact ⟨[_],X,_,⟨rfl,trivial⟩,⟨bool_F (fun h => q1 (by rw [h])),rfl⟩,yK.out⟩
  ·repeat (first | refine zK rfl rfl rfl ?_ | refine zZ rfl rfl rfl rfl rfl ?_ | refine L_ld rfl rfl rfl rfl rfl ?_)
   skip
   refine zY rfl rfl (zQ rfl rfl rfl) (sameB_spec w0 X _ _ x.data y.data rx ry hx hy) ?_
   rintro _ _ ⟨rfl,rfl⟩
   by_cases c0 : x.data = y.data
   rotate_left
   ·rw [decide_eq_false c0]
    repeat (first | refine zE ?_ | refine zK rfl rfl rfl ?_ | refine zM ?_)
    exact ⟨[_],X,_,⟨rfl,trivial⟩,⟨bool_F (fun h => c0 (by rw [h])),rfl⟩,yK.out⟩
   ·rw [decide_eq_true c0]
    repeat (first | refine zE ?_ | refine zK rfl rfl rfl ?_ | refine zM ?_)
    exact ⟨[_],X,_,⟨rfl,trivial⟩,⟨bool_T (by cases x; cases y; simp only at q0 q1 c0; subst q0 q1 c0; rfl),rfl⟩,yK.out⟩
theorem sameOut1_spec (w0 : World) (X : Hp) (x y : Outp) (e f : List Value) (he : Rep.rd w0 X x e) (hf : Rep.rd w0 X y f) (hx : x.data.length ≤ 1000000000) (hy : y.data.length ≤ 1000000000) :
  Spec Tryz.prog w0 150 [.agg e.toArray,.agg f.toArray] X (fun r h' => r = .bool (decide (x = y)) ∧ X = h') := by
 obtain ⟨a,c,rfl,rx⟩ := he
 obtain ⟨a2,c2,rfl,ry⟩ := hf
 refine zN Tryz.func150 rfl Tryz.ntmps150 Tryz.results150 rfl fun fr => ?_
 repeat (first | refine zF ?_ | refine zB ?_ | refine zE ?_ | refine zK rfl rfl rfl ?_ | refine zZ rfl rfl rfl rfl rfl ?_ | refine L_ld rfl rfl rfl rfl rfl ?_ | refine L_box rfl (c := [_,_,_,_]) rfl rfl rfl (fun _ => ?_))
 refine yG rfl rfl (pv_eql rfl rfl) (fun q0 => ?_) (fun q0 => ?_)
 rotate_left
 ·repeat (first | refine zE ?_ | refine zK rfl rfl rfl ?_ | refine L_skip rfl rfl ?_ | refine zM ?_)
  exact ⟨[_],X,_,⟨rfl,trivial⟩,⟨bool_F (fun h => q0 (by rw [h])),rfl⟩,yK.out⟩
 ·repeat (first | refine zK rfl rfl rfl ?_ | refine zZ rfl rfl rfl rfl rfl ?_ | refine L_ld rfl rfl rfl rfl rfl ?_)
  skip
  refine yG rfl rfl (pv_eql rfl rfl) (fun q1 => ?_) (fun q1 => ?_)
  rotate_left
  ·repeat (first | refine zE ?_ | refine zK rfl rfl rfl ?_ | refine L_skip rfl rfl ?_ | refine zM ?_)
   exact ⟨[_],X,_,⟨rfl,trivial⟩,⟨bool_F (fun h => q1 (by rw [h])),rfl⟩,yK.out⟩
  ·repeat (first | refine zK rfl rfl rfl ?_ | refine zZ rfl rfl rfl rfl rfl ?_ | refine L_ld rfl rfl rfl rfl rfl ?_)
   skip
   refine yG rfl rfl (pv_eql rfl rfl) (fun q2 => ?_) (fun q2 => ?_)
   rotate_left
   ·repeat (first | refine zE ?_ | refine zK rfl rfl rfl ?_ | refine L_skip rfl rfl ?_ | refine zM ?_)
    exact ⟨[_],X,_,⟨rfl,trivial⟩,⟨bool_F (fun h => q2 (by rw [h])),rfl⟩,yK.out⟩
   ·repeat (first | refine zK rfl rfl rfl ?_ | refine zZ rfl rfl rfl rfl rfl ?_ | refine L_ld rfl rfl rfl rfl rfl ?_)
    skip
    refine zY rfl rfl (zQ rfl rfl rfl) (sameB_spec w0 X _ _ x.data y.data rx ry hx hy) ?_
    rintro _ _ ⟨rfl,rfl⟩
    by_cases c0 : x.data = y.data
    rotate_left
    ·rw [decide_eq_false c0]
     repeat (first | refine zE ?_ | refine zK rfl rfl rfl ?_ | refine zM ?_)
     exact ⟨[_],X,_,⟨rfl,trivial⟩,⟨bool_F (fun h => c0 (by rw [h])),rfl⟩,yK.out⟩
    ·rw [decide_eq_true c0]
     repeat (first | refine zE ?_ | refine zK rfl rfl rfl ?_ | refine zM ?_)
     exact ⟨[_],X,_,⟨rfl,trivial⟩,⟨bool_T (by cases x; cases y; simp only at q0 q1 q2 c0; subst q0 q1 q2 c0; rfl),rfl⟩,yK.out⟩
theorem sameRes1_spec (w0 : World) (X : Hp) (x y : Res) (e f : List Value) (he : Rep.rd w0 X x e) (hf : Rep.rd w0 X y f) (hx : x.data.length ≤ 1000000000) (hy : y.data.length ≤ 1000000000) :
  Spec Tryz.prog w0 30 [.agg e.toArray,.agg f.toArray] X (fun r h' => r = .bool (decide (x = y)) ∧ X = h') := by
 obtain ⟨a,c,rfl,rx⟩ := he
 obtain ⟨a2,c2,rfl,ry⟩ := hf
 refine zN Tryz.func30 rfl Tryz.ntmps30 Tryz.results30 rfl fun fr => ?_
 repeat (first | refine zF ?_ | refine zB ?_ | refine zE ?_ | refine zK rfl rfl rfl ?_ | refine zZ rfl rfl rfl rfl rfl ?_ | refine L_ld rfl rfl rfl rfl rfl ?_ | refine L_box rfl (c := [_,_]) rfl rfl rfl (fun _ => ?_))
 refine yG rfl rfl (pv_eql rfl rfl) (fun q0 => ?_) (fun q0 => ?_)
 rotate_left
 ·repeat (first | refine zE ?_ | refine zK rfl rfl rfl ?_ | refine L_skip rfl rfl ?_ | refine zM ?_)
  exact ⟨[_],X,_,⟨rfl,trivial⟩,⟨bool_F (fun h => q0 (by rw [h])),rfl⟩,yK.out⟩
 ·repeat (first | refine zK rfl rfl rfl ?_ | refine zZ rfl rfl rfl rfl rfl ?_ | refine L_ld rfl rfl rfl rfl rfl ?_)
  skip
  refine zY rfl rfl (zQ rfl rfl rfl) (sameB_spec w0 X _ _ x.data y.data rx ry hx hy) ?_
  rintro _ _ ⟨rfl,rfl⟩
  by_cases c0 : x.data = y.data
  rotate_left
  ·rw [decide_eq_false c0]
   repeat (first | refine zE ?_ | refine zK rfl rfl rfl ?_ | refine zM ?_)
   exact ⟨[_],X,_,⟨rfl,trivial⟩,⟨bool_F (fun h => c0 (by rw [h])),rfl⟩,yK.out⟩
  ·rw [decide_eq_true c0]
   repeat (first | refine zE ?_ | refine zK rfl rfl rfl ?_ | refine zM ?_)
   exact ⟨[_],X,_,⟨rfl,trivial⟩,⟨bool_T (by cases x; cases y; simp only at q0 c0; subst q0 c0; rfl),rfl⟩,yK.out⟩
theorem sameSes1_spec (w0 : World) (X : Hp) (x y : Ses) (e f : List Value) (he : Rep.rd w0 X x e) (hf : Rep.rd w0 X y f) (hx : x.res.data.length ≤ 1000000000) (hy : y.res.data.length ≤ 1000000000) :
  Spec Tryz.prog w0 151 [.agg e.toArray,.agg f.toArray] X (fun r h' => r = .bool (decide (x = y)) ∧ X = h') := by
 obtain ⟨a,c,rfl,rx⟩ := he
 obtain ⟨a2,c2,rfl,ry⟩ := hf
 refine zN Tryz.func151 rfl Tryz.ntmps151 Tryz.results151 rfl fun fr => ?_
 repeat (first | refine zF ?_ | refine zB ?_ | refine zE ?_ | refine zK rfl rfl rfl ?_ | refine zZ rfl rfl rfl rfl rfl ?_ | refine L_ld rfl rfl rfl rfl rfl ?_ | refine L_box rfl (c := [_,_,_,_]) rfl rfl rfl (fun _ => ?_))
 refine yG rfl rfl (pv_eql rfl rfl) (fun q0 => ?_) (fun q0 => ?_)
 rotate_left
 ·repeat (first | refine zE ?_ | refine zK rfl rfl rfl ?_ | refine L_skip rfl rfl ?_ | refine zM ?_)
  exact ⟨[_],X,_,⟨rfl,trivial⟩,⟨bool_F (fun h => q0 (by rw [h])),rfl⟩,yK.out⟩
 ·repeat (first | refine zK rfl rfl rfl ?_ | refine zZ rfl rfl rfl rfl rfl ?_ | refine L_ld rfl rfl rfl rfl rfl ?_)
  skip
  refine yG rfl rfl (pv_eql rfl rfl) (fun q1 => ?_) (fun q1 => ?_)
  rotate_left
  ·repeat (first | refine zE ?_ | refine zK rfl rfl rfl ?_ | refine L_skip rfl rfl ?_ | refine zM ?_)
   exact ⟨[_],X,_,⟨rfl,trivial⟩,⟨bool_F (fun h => q1 (by rw [h])),rfl⟩,yK.out⟩
  ·repeat (first | refine zK rfl rfl rfl ?_ | refine zZ rfl rfl rfl rfl rfl ?_ | refine L_ldA rfl (vs := [_,_]) rfl rfl rfl rfl rfl ?_)
   skip
   refine zY rfl rfl (zQ rfl rfl rfl) (sameRes1_spec w0 X x.res y.res _ _ ⟨a,c,rfl,rx⟩ ⟨a2,c2,rfl,ry⟩ hx hy) ?_
   rintro _ _ ⟨rfl,rfl⟩
   by_cases c0 : x.res = y.res
   rotate_left
   ·rw [decide_eq_false c0]
    repeat (first | refine zE ?_ | refine zK rfl rfl rfl ?_ | refine zM ?_)
    exact ⟨[_],X,_,⟨rfl,trivial⟩,⟨bool_F (fun h => c0 (by rw [h])),rfl⟩,yK.out⟩
   ·rw [decide_eq_true c0]
    repeat (first | refine zE ?_ | refine zK rfl rfl rfl ?_ | refine zM ?_)
    exact ⟨[_],X,_,⟨rfl,trivial⟩,⟨bool_T (by cases x; cases y; simp only at q0 q1 c0; subst q0 q1 c0; rfl),rfl⟩,yK.out⟩
theorem sameBlks_spec (w0 : World) (X : Hp) (v u : Value) (xs ys : List Blk) (hv : RdL w0 X v xs) (hu : RdL w0 X u ys) (hl : xs.length ≤ 1000000000) (hl2 : ys.length ≤ 1000000000) (hd : ∀ x ∈ xs,x.data.length ≤ 1000000000) (hd2 : ∀ x ∈ ys,x.data.length ≤ 1000000000) :
  Spec Tryz.prog w0 26 [v,u] X (fun r h' => r = .bool (decide (xs = ys)) ∧ X = h') := by
 obtain ⟨a,c,rfl⟩ := hv.shape
 obtain ⟨a2,c2,rfl⟩ := hu.shape
 refine zN Tryz.func26 rfl Tryz.ntmps26 Tryz.results26 rfl fun fr => ?_
 repeat (first | refine zF ?_ | refine zB ?_ | refine zE ?_ | refine zK rfl rfl rfl ?_ | refine L_len rfl rfl rfl ?_)
 refine yG rfl rfl (pv_neq rfl rfl) (fun n1 => ?_) (fun n1 => ?_)
 ·repeat (first | refine zF ?_ | refine zB ?_ | refine zE ?_ | refine zK rfl rfl rfl ?_ | refine zM ?_ | refine zJ rfl ?_)
  exact ⟨[_],X,_,⟨rfl,trivial⟩,⟨bool_F (fun h => n1 (by rw [h])),rfl⟩,yK.out⟩
 ·have hll : xs.length = ys.length := by omega
  repeat (first | refine zF ?_ | refine zR ?_ | refine zB ?_ | refine zE ?_ | refine zK rfl rfl rfl ?_ | refine zP ?_ | refine zI rfl ?_)
  refine hold_count xs.length (fun k g L => ∃ (R : Hp),g = [(0,.slice a xs.length c),(1,.slice a2 ys.length c2),(5,.int .i64 k)] ∧ xs.take k = ys.take k ∧ L = X + fr + R) _ ⟨0,rfl,by simp,(yB _).symm⟩ (by repeat (first | exact zT _ | refine zO rfl ?_)) ?_
  rintro k g L hk ⟨R,rfl,hpre,rfl⟩
  repeat (first | refine zF ?_ | refine zB ?_ | refine zK rfl rfl rfl ?_ | refine L_len rfl rfl rfl ?_)
  refine yG rfl rfl (pv_lss rfl rfl) (fun n2 => ?_) (fun n2 => ?_)
  ·have hx : k < xs.length := by omega
   have hy : k < ys.length := by omega
   obtain ⟨b2,o2,rfl,e,he,hat⟩ := hv.at hx
   obtain ⟨b3,o3,rfl,e',he',hat'⟩ := hu.at hy
   obtain ⟨a4,c4,rfl,_⟩ := id he
   obtain ⟨a5,c5,rfl,_⟩ := id he'
   repeat (first | refine zF ?_ | refine zR ?_ | refine zE ?_ | refine zP ?_ | refine zJ rfl ?_)
   refine yC [8] [0,1,2,3,4,5,6,7,8,9] (by kernel_rfl) rfl (by kernel_rfl) (by kernel_rfl) ?_
   repeat (first | refine yI rfl rfl rfl rfl rfl ?_ | refine W_idx rfl rfl rfl (by omega) rfl rfl rfl ?_ | refine W_atA rfl rfl (by assumption) rfl rfl rfl rfl rfl ?_)
   refine W_call rfl rfl rfl rfl (zQ rfl rfl rfl) (sameBlk1_spec w0 X xs[k] ys[k] _ _ he he' (hd _ (List.getElem_mem hx)) (hd2 _ (List.getElem_mem hy))) (Kept.all _) ?_
   rintro _ _ ⟨rfl,rfl⟩
   refine ⟨(by repeat (first | exact trivial | exact zG rfl (zS rfl) | exact zL rfl rfl rfl | exact zX rfl (by assumption) rfl | exact zH rfl (by assumption) rfl | exact zH rfl (by assumption) (by assumption) | refine ⟨?_,?_⟩)),?_⟩
   by_cases e : xs[k] = ys[k]
   ·rw [decide_eq_true e]
    repeat (first | refine yJ ?_ | refine yI rfl rfl rfl rfl rfl ?_)
    repeat (first | refine zB ?_ | refine zE ?_ | refine zK rfl rfl rfl ?_ | refine zP ?_ | refine zI rfl ?_ | refine L_add rfl rfl (by omega) (by omega) rfl rfl ?_)
    exact ⟨hx,_,(by repeat (first | exact zT _ | refine zO rfl ?_)),_,rfl,take_more hx hy hpre e,yK.out⟩
   ·rw [decide_eq_false e]
    repeat (first | refine yJ ?_ | refine yI rfl rfl rfl rfl rfl ?_)
    repeat (first | refine zF ?_ | refine zB ?_ | refine zE ?_ | refine zK rfl rfl rfl ?_ | refine zM ?_ | refine zJ rfl ?_)
    exact ⟨[_],X,_,⟨rfl,trivial⟩,⟨bool_F (fun h => e (by subst h; rfl)),rfl⟩,yK.out⟩
  ·repeat (first | refine zF ?_ | refine yD ?_ | refine zB ?_ | refine zE ?_ | refine zK rfl rfl rfl ?_ | refine zM ?_ | refine zI rfl ?_)
   rw [List.take_of_length_le (by omega),List.take_of_length_le (by omega)] at hpre
   exact ⟨[_],X,_,⟨rfl,trivial⟩,⟨bool_T hpre,rfl⟩,yK.out⟩
theorem sameWrs_spec (w0 : World) (X : Hp) (v u : Value) (xs ys : List Wr) (hv : RdL w0 X v xs) (hu : RdL w0 X u ys) (hl : xs.length ≤ 1000000000) (hl2 : ys.length ≤ 1000000000) (hd : ∀ x ∈ xs,x.data.length ≤ 1000000000) (hd2 : ∀ x ∈ ys,x.data.length ≤ 1000000000) :
  Spec Tryz.prog w0 164 [v,u] X (fun r h' => r = .bool (decide (xs = ys)) ∧ X = h') := by
 obtain ⟨a,c,rfl⟩ := hv.shape
 obtain ⟨a2,c2,rfl⟩ := hu.shape
 refine zN Tryz.func164 rfl Tryz.ntmps164 Tryz.results164 rfl fun fr => ?_
 repeat (first | refine zF ?_ | refine zB ?_ | refine zE ?_ | refine zK rfl rfl rfl ?_ | refine L_len rfl rfl rfl ?_)
 refine yG rfl rfl (pv_neq rfl rfl) (fun n1 => ?_) (fun n1 => ?_)
 ·repeat (first | refine zF ?_ | refine zB ?_ | refine zE ?_ | refine zK rfl rfl rfl ?_ | refine zM ?_ | refine zJ rfl ?_)
  exact ⟨[_],X,_,⟨rfl,trivial⟩,⟨bool_F (fun h => n1 (by rw [h])),rfl⟩,yK.out⟩
 ·have hll : xs.length = ys.length := by omega
  repeat (first | refine zF ?_ | refine zR ?_ | refine zB ?_ | refine zE ?_ | refine zK rfl rfl rfl ?_ | refine zP ?_ | refine zI rfl ?_)
  refine hold_count xs.length (fun k g L => ∃ (R : Hp),g = [(0,.slice a xs.length c),(1,.slice a2 ys.length c2),(5,.int .i64 k)] ∧ xs.take k = ys.take k ∧ L = X + fr + R) _ ⟨0,rfl,by simp,(yB _).symm⟩ (by repeat (first | exact zT _ | refine zO rfl ?_)) ?_
  rintro k g L hk ⟨R,rfl,hpre,rfl⟩
  repeat (first | refine zF ?_ | refine zB ?_ | refine zK rfl rfl rfl ?_ | refine L_len rfl rfl rfl ?_)
  refine yG rfl rfl (pv_lss rfl rfl) (fun n2 => ?_) (fun n2 => ?_)
  ·have hx : k < xs.length := by omega
   have hy : k < ys.length := by omega
   obtain ⟨b2,o2,rfl,e,he,hat⟩ := hv.at hx
   obtain ⟨b3,o3,rfl,e',he',hat'⟩ := hu.at hy
   obtain ⟨a4,c4,rfl,_⟩ := id he
   obtain ⟨a5,c5,rfl,_⟩ := id he'
   repeat (first | refine zF ?_ | refine zR ?_ | refine zE ?_ | refine zP ?_ | refine zJ rfl ?_)
   refine yC [8] [0,1,2,3,4,5,6,7,8,9] (by kernel_rfl) rfl (by kernel_rfl) (by kernel_rfl) ?_
   repeat (first | refine yI rfl rfl rfl rfl rfl ?_ | refine W_idx rfl rfl rfl (by omega) rfl rfl rfl ?_ | refine W_atA rfl rfl (by assumption) rfl rfl rfl rfl rfl ?_)
   refine W_call rfl rfl rfl rfl (zQ rfl rfl rfl) (sameWr1_spec w0 X xs[k] ys[k] _ _ he he' (hd _ (List.getElem_mem hx)) (hd2 _ (List.getElem_mem hy))) (Kept.all _) ?_
   rintro _ _ ⟨rfl,rfl⟩
   refine ⟨(by repeat (first | exact trivial | exact zG rfl (zS rfl) | exact zL rfl rfl rfl | exact zX rfl (by assumption) rfl | exact zH rfl (by assumption) rfl | exact zH rfl (by assumption) (by assumption) | refine ⟨?_,?_⟩)),?_⟩
   by_cases e : xs[k] = ys[k]
   ·rw [decide_eq_true e]
    repeat (first | refine yJ ?_ | refine yI rfl rfl rfl rfl rfl ?_)
    repeat (first | refine zB ?_ | refine zE ?_ | refine zK rfl rfl rfl ?_ | refine zP ?_ | refine zI rfl ?_ | refine L_add rfl rfl (by omega) (by omega) rfl rfl ?_)
    exact ⟨hx,_,(by repeat (first | exact zT _ | refine zO rfl ?_)),_,rfl,take_more hx hy hpre e,yK.out⟩
   ·rw [decide_eq_false e]
    repeat (first | refine yJ ?_ | refine yI rfl rfl rfl rfl rfl ?_)
    repeat (first | refine zF ?_ | refine zB ?_ | refine zE ?_ | refine zK rfl rfl rfl ?_ | refine zM ?_ | refine zJ rfl ?_)
    exact ⟨[_],X,_,⟨rfl,trivial⟩,⟨bool_F (fun h => e (by subst h; rfl)),rfl⟩,yK.out⟩
  ·repeat (first | refine zF ?_ | refine yD ?_ | refine zB ?_ | refine zE ?_ | refine zK rfl rfl rfl ?_ | refine zM ?_ | refine zI rfl ?_)
   rw [List.take_of_length_le (by omega),List.take_of_length_le (by omega)] at hpre
   exact ⟨[_],X,_,⟨rfl,trivial⟩,⟨bool_T hpre,rfl⟩,yK.out⟩
theorem sameKpts_spec (w0 : World) (X : Hp) (v u : Value) (xs ys : List Kpt) (hv : RdL w0 X v xs) (hu : RdL w0 X u ys) (hl : xs.length ≤ 1000000000) (hl2 : ys.length ≤ 1000000000) (hd : ∀ x ∈ xs,x.data.length ≤ 1000000000) (hd2 : ∀ x ∈ ys,x.data.length ≤ 1000000000) :
  Spec Tryz.prog w0 73 [v,u] X (fun r h' => r = .bool (decide (xs = ys)) ∧ X = h') := by
 obtain ⟨a,c,rfl⟩ := hv.shape
 obtain ⟨a2,c2,rfl⟩ := hu.shape
 refine zN Tryz.func73 rfl Tryz.ntmps73 Tryz.results73 rfl fun fr => ?_
 repeat (first | refine zF ?_ | refine zB ?_ | refine zE ?_ | refine zK rfl rfl rfl ?_ | refine L_len rfl rfl rfl ?_)
 refine yG rfl rfl (pv_neq rfl rfl) (fun n1 => ?_) (fun n1 => ?_)
 ·repeat (first | refine zF ?_ | refine zB ?_ | refine zE ?_ | refine zK rfl rfl rfl ?_ | refine zM ?_ | refine zJ rfl ?_)
  exact ⟨[_],X,_,⟨rfl,trivial⟩,⟨bool_F (fun h => n1 (by rw [h])),rfl⟩,yK.out⟩
 ·have hll : xs.length = ys.length := by omega
  repeat (first | refine zF ?_ | refine zR ?_ | refine zB ?_ | refine zE ?_ | refine zK rfl rfl rfl ?_ | refine zP ?_ | refine zI rfl ?_)
  refine hold_count xs.length (fun k g L => ∃ (R : Hp),g = [(0,.slice a xs.length c),(1,.slice a2 ys.length c2),(5,.int .i64 k)] ∧ xs.take k = ys.take k ∧ L = X + fr + R) _ ⟨0,rfl,by simp,(yB _).symm⟩ (by repeat (first | exact zT _ | refine zO rfl ?_)) ?_
  rintro k g L hk ⟨R,rfl,hpre,rfl⟩
  repeat (first | refine zF ?_ | refine zB ?_ | refine zK rfl rfl rfl ?_ | refine L_len rfl rfl rfl ?_)
  refine yG rfl rfl (pv_lss rfl rfl) (fun n2 => ?_) (fun n2 => ?_)
  ·have hx : k < xs.length := by omega
   have hy : k < ys.length := by omega
   obtain ⟨b2,o2,rfl,e,he,hat⟩ := hv.at hx
   obtain ⟨b3,o3,rfl,e',he',hat'⟩ := hu.at hy
   obtain ⟨a4,c4,rfl,_⟩ := id he
   obtain ⟨a5,c5,rfl,_⟩ := id he'
   repeat (first | refine zF ?_ | refine zR ?_ | refine zE ?_ | refine zP ?_ | refine zJ rfl ?_)
   refine yC [8] [0,1,2,3,4,5,6,7,8,9] (by kernel_rfl) rfl (by kernel_rfl) (by kernel_rfl) ?_
   repeat (first | refine yI rfl rfl rfl rfl rfl ?_ | refine W_idx rfl rfl rfl (by omega) rfl rfl rfl ?_ | refine W_atA rfl rfl (by assumption) rfl rfl rfl rfl rfl ?_)
   refine W_call rfl rfl rfl rfl (zQ rfl rfl rfl) (sameKpt1_spec w0 X xs[k] ys[k] _ _ he he' (hd _ (List.getElem_mem hx)) (hd2 _ (List.getElem_mem hy))) (Kept.all _) ?_
   rintro _ _ ⟨rfl,rfl⟩
   refine ⟨(by repeat (first | exact trivial | exact zG rfl (zS rfl) | exact zL rfl rfl rfl | exact zX rfl (by assumption) rfl | exact zH rfl (by assumption) rfl | exact zH rfl (by assumption) (by assumption) | refine ⟨?_,?_⟩)),?_⟩
   by_cases e : xs[k] = ys[k]
   ·rw [decide_eq_true e]
    repeat (first | refine yJ ?_ | refine yI rfl rfl rfl rfl rfl ?_)
    repeat (first | refine zB ?_ | refine zE ?_ | refine zK rfl rfl rfl ?_ | refine zP ?_ | refine zI rfl ?_ | refine L_add rfl rfl (by omega) (by omega) rfl rfl ?_)
    exact ⟨hx,_,(by repeat (first | exact zT _ | refine zO rfl ?_)),_,rfl,take_more hx hy hpre e,yK.out⟩
   ·rw [decide_eq_false e]
    repeat (first | refine yJ ?_ | refine yI rfl rfl rfl rfl rfl ?_)
    repeat (first | refine zF ?_ | refine zB ?_ | refine zE ?_ | refine zK rfl rfl rfl ?_ | refine zM ?_ | refine zJ rfl ?_)
    exact ⟨[_],X,_,⟨rfl,trivial⟩,⟨bool_F (fun h => e (by subst h; rfl)),rfl⟩,yK.out⟩
  ·repeat (first | refine zF ?_ | refine yD ?_ | refine zB ?_ | refine zE ?_ | refine zK rfl rfl rfl ?_ | refine zM ?_ | refine zI rfl ?_)
   rw [List.take_of_length_le (by omega),List.take_of_length_le (by omega)] at hpre
   exact ⟨[_],X,_,⟨rfl,trivial⟩,⟨bool_T hpre,rfl⟩,yK.out⟩
theorem sameOuts_spec (w0 : World) (X : Hp) (v u : Value) (xs ys : List Outp) (hv : RdL w0 X v xs) (hu : RdL w0 X u ys) (hl : xs.length ≤ 1000000000) (hl2 : ys.length ≤ 1000000000) (hd : ∀ x ∈ xs,x.data.length ≤ 1000000000) (hd2 : ∀ x ∈ ys,x.data.length ≤ 1000000000) :
  Spec Tryz.prog w0 76 [v,u] X (fun r h' => r = .bool (decide (xs = ys)) ∧ X = h') := by
 obtain ⟨a,c,rfl⟩ := hv.shape
 obtain ⟨a2,c2,rfl⟩ := hu.shape
 refine zN Tryz.func76 rfl Tryz.ntmps76 Tryz.results76 rfl fun fr => ?_
 repeat (first | refine zF ?_ | refine zB ?_ | refine zE ?_ | refine zK rfl rfl rfl ?_ | refine L_len rfl rfl rfl ?_)
 refine yG rfl rfl (pv_neq rfl rfl) (fun n1 => ?_) (fun n1 => ?_)
 ·repeat (first | refine zF ?_ | refine zB ?_ | refine zE ?_ | refine zK rfl rfl rfl ?_ | refine zM ?_ | refine zJ rfl ?_)
  exact ⟨[_],X,_,⟨rfl,trivial⟩,⟨bool_F (fun h => n1 (by rw [h])),rfl⟩,yK.out⟩
 ·have hll : xs.length = ys.length := by omega
  repeat (first | refine zF ?_ | refine zR ?_ | refine zB ?_ | refine zE ?_ | refine zK rfl rfl rfl ?_ | refine zP ?_ | refine zI rfl ?_)
  refine hold_count xs.length (fun k g L => ∃ (R : Hp),g = [(0,.slice a xs.length c),(1,.slice a2 ys.length c2),(5,.int .i64 k)] ∧ xs.take k = ys.take k ∧ L = X + fr + R) _ ⟨0,rfl,by simp,(yB _).symm⟩ (by repeat (first | exact zT _ | refine zO rfl ?_)) ?_
  rintro k g L hk ⟨R,rfl,hpre,rfl⟩
  repeat (first | refine zF ?_ | refine zB ?_ | refine zK rfl rfl rfl ?_ | refine L_len rfl rfl rfl ?_)
  refine yG rfl rfl (pv_lss rfl rfl) (fun n2 => ?_) (fun n2 => ?_)
  ·have hx : k < xs.length := by omega
   have hy : k < ys.length := by omega
   obtain ⟨b2,o2,rfl,e,he,hat⟩ := hv.at hx
   obtain ⟨b3,o3,rfl,e',he',hat'⟩ := hu.at hy
   obtain ⟨a4,c4,rfl,_⟩ := id he
   obtain ⟨a5,c5,rfl,_⟩ := id he'
   repeat (first | refine zF ?_ | refine zR ?_ | refine zE ?_ | refine zP ?_ | refine zJ rfl ?_)
   refine yC [8] [0,1,2,3,4,5,6,7,8,9] (by kernel_rfl) rfl (by kernel_rfl) (by kernel_rfl) ?_
   repeat (first | refine yI rfl rfl rfl rfl rfl ?_ | refine W_idx rfl rfl rfl (by omega) rfl rfl rfl ?_ | refine W_atA rfl rfl (by assumption) rfl rfl rfl rfl rfl ?_)
   refine W_call rfl rfl rfl rfl (zQ rfl rfl rfl) (sameOut1_spec w0 X xs[k] ys[k] _ _ he he' (hd _ (List.getElem_mem hx)) (hd2 _ (List.getElem_mem hy))) (Kept.all _) ?_
   rintro _ _ ⟨rfl,rfl⟩
   refine ⟨(by repeat (first | exact trivial | exact zG rfl (zS rfl) | exact zL rfl rfl rfl | exact zX rfl (by assumption) rfl | exact zH rfl (by assumption) rfl | exact zH rfl (by assumption) (by assumption) | refine ⟨?_,?_⟩)),?_⟩
   by_cases e : xs[k] = ys[k]
   ·rw [decide_eq_true e]
    repeat (first | refine yJ ?_ | refine yI rfl rfl rfl rfl rfl ?_)
    repeat (first | refine zB ?_ | refine zE ?_ | refine zK rfl rfl rfl ?_ | refine zP ?_ | refine zI rfl ?_ | refine L_add rfl rfl (by omega) (by omega) rfl rfl ?_)
    exact ⟨hx,_,(by repeat (first | exact zT _ | refine zO rfl ?_)),_,rfl,take_more hx hy hpre e,yK.out⟩
   ·rw [decide_eq_false e]
    repeat (first | refine yJ ?_ | refine yI rfl rfl rfl rfl rfl ?_)
    repeat (first | refine zF ?_ | refine zB ?_ | refine zE ?_ | refine zK rfl rfl rfl ?_ | refine zM ?_ | refine zJ rfl ?_)
    exact ⟨[_],X,_,⟨rfl,trivial⟩,⟨bool_F (fun h => e (by subst h; rfl)),rfl⟩,yK.out⟩
  ·repeat (first | refine zF ?_ | refine yD ?_ | refine zB ?_ | refine zE ?_ | refine zK rfl rfl rfl ?_ | refine zM ?_ | refine zI rfl ?_)
   rw [List.take_of_length_le (by omega),List.take_of_length_le (by omega)] at hpre
   exact ⟨[_],X,_,⟨rfl,trivial⟩,⟨bool_T hpre,rfl⟩,yK.out⟩
theorem sameSess_spec (w0 : World) (X : Hp) (v u : Value) (xs ys : List Ses) (hv : RdL w0 X v xs) (hu : RdL w0 X u ys) (hl : xs.length ≤ 1000000000) (hl2 : ys.length ≤ 1000000000) (hd : ∀ x ∈ xs,x.res.data.length ≤ 1000000000) (hd2 : ∀ x ∈ ys,x.res.data.length ≤ 1000000000) :
  Spec Tryz.prog w0 77 [v,u] X (fun r h' => r = .bool (decide (xs = ys)) ∧ X = h') := by
 obtain ⟨a,c,rfl⟩ := hv.shape
 obtain ⟨a2,c2,rfl⟩ := hu.shape
 refine zN Tryz.func77 rfl Tryz.ntmps77 Tryz.results77 rfl fun fr => ?_
 repeat (first | refine zF ?_ | refine zB ?_ | refine zE ?_ | refine zK rfl rfl rfl ?_ | refine L_len rfl rfl rfl ?_)
 refine yG rfl rfl (pv_neq rfl rfl) (fun n1 => ?_) (fun n1 => ?_)
 ·repeat (first | refine zF ?_ | refine zB ?_ | refine zE ?_ | refine zK rfl rfl rfl ?_ | refine zM ?_ | refine zJ rfl ?_)
  exact ⟨[_],X,_,⟨rfl,trivial⟩,⟨bool_F (fun h => n1 (by rw [h])),rfl⟩,yK.out⟩
 ·have hll : xs.length = ys.length := by omega
  repeat (first | refine zF ?_ | refine zR ?_ | refine zB ?_ | refine zE ?_ | refine zK rfl rfl rfl ?_ | refine zP ?_ | refine zI rfl ?_)
  refine hold_count xs.length (fun k g L => ∃ (R : Hp),g = [(0,.slice a xs.length c),(1,.slice a2 ys.length c2),(5,.int .i64 k)] ∧ xs.take k = ys.take k ∧ L = X + fr + R) _ ⟨0,rfl,by simp,(yB _).symm⟩ (by repeat (first | exact zT _ | refine zO rfl ?_)) ?_
  rintro k g L hk ⟨R,rfl,hpre,rfl⟩
  repeat (first | refine zF ?_ | refine zB ?_ | refine zK rfl rfl rfl ?_ | refine L_len rfl rfl rfl ?_)
  refine yG rfl rfl (pv_lss rfl rfl) (fun n2 => ?_) (fun n2 => ?_)
  ·have hx : k < xs.length := by omega
   have hy : k < ys.length := by omega
   obtain ⟨b2,o2,rfl,e,he,hat⟩ := hv.at hx
   obtain ⟨b3,o3,rfl,e',he',hat'⟩ := hu.at hy
   obtain ⟨a4,c4,rfl,_⟩ := id he
   obtain ⟨a5,c5,rfl,_⟩ := id he'
   repeat (first | refine zF ?_ | refine zR ?_ | refine zE ?_ | refine zP ?_ | refine zJ rfl ?_)
   refine yC [8] [0,1,2,3,4,5,6,7,8,9] (by kernel_rfl) rfl (by kernel_rfl) (by kernel_rfl) ?_
   repeat (first | refine yI rfl rfl rfl rfl rfl ?_ | refine W_idx rfl rfl rfl (by omega) rfl rfl rfl ?_ | refine W_atA rfl rfl (by assumption) rfl rfl rfl rfl rfl ?_)
   refine W_call rfl rfl rfl rfl (zQ rfl rfl rfl) (sameSes1_spec w0 X xs[k] ys[k] _ _ he he' (hd _ (List.getElem_mem hx)) (hd2 _ (List.getElem_mem hy))) (Kept.all _) ?_
   rintro _ _ ⟨rfl,rfl⟩
   refine ⟨(by repeat (first | exact trivial | exact zG rfl (zS rfl) | exact zL rfl rfl rfl | exact zX rfl (by assumption) rfl | exact zH rfl (by assumption) rfl | exact zH rfl (by assumption) (by assumption) | refine ⟨?_,?_⟩)),?_⟩
   by_cases e : xs[k] = ys[k]
   ·rw [decide_eq_true e]
    repeat (first | refine yJ ?_ | refine yI rfl rfl rfl rfl rfl ?_)
    repeat (first | refine zB ?_ | refine zE ?_ | refine zK rfl rfl rfl ?_ | refine zP ?_ | refine zI rfl ?_ | refine L_add rfl rfl (by omega) (by omega) rfl rfl ?_)
    exact ⟨hx,_,(by repeat (first | exact zT _ | refine zO rfl ?_)),_,rfl,take_more hx hy hpre e,yK.out⟩
   ·rw [decide_eq_false e]
    repeat (first | refine yJ ?_ | refine yI rfl rfl rfl rfl rfl ?_)
    repeat (first | refine zF ?_ | refine zB ?_ | refine zE ?_ | refine zK rfl rfl rfl ?_ | refine zM ?_ | refine zJ rfl ?_)
    exact ⟨[_],X,_,⟨rfl,trivial⟩,⟨bool_F (fun h => e (by subst h; rfl)),rfl⟩,yK.out⟩
  ·repeat (first | refine zF ?_ | refine yD ?_ | refine zB ?_ | refine zE ?_ | refine zK rfl rfl rfl ?_ | refine zM ?_ | refine zI rfl ?_)
   rw [List.take_of_length_le (by omega),List.take_of_length_le (by omega)] at hpre
   exact ⟨[_],X,_,⟨rfl,trivial⟩,⟨bool_T hpre,rfl⟩,yK.out⟩
theorem samePrp1_spec (w0 : World) (X : Hp) (x y : Prp) (e f : List Value) (he : Rep.rd w0 X x e) (hf : Rep.rd w0 X y f) (hx : x.parts.length ≤ 1000000000 ∧ x.writes.length ≤ 1000000000 ∧ ∀ w ∈ x.writes,w.data.length ≤ 1000000000) (hy : y.parts.length ≤ 1000000000 ∧ y.writes.length ≤ 1000000000 ∧ ∀ w ∈ y.writes,w.data.length ≤ 1000000000) :
  Spec Tryz.prog w0 105 [.agg e.toArray,.agg f.toArray] X (fun r h' => r = .bool (decide (x = y)) ∧ X = h') := by
 obtain ⟨a,c,a2,c2,rfl,rx,rx2⟩ := he
 obtain ⟨a3,c3,a4,c4,rfl,ry,ry2⟩ := hf
 refine zN Tryz.func105 rfl Tryz.ntmps105 Tryz.results105 rfl fun fr => ?_
 repeat (first | refine zF ?_ | refine zB ?_ | refine zE ?_ | refine zK rfl rfl rfl ?_ | refine zZ rfl rfl rfl rfl rfl ?_ | refine L_ld rfl rfl rfl rfl rfl ?_ | refine L_box rfl (c := [_,_,_,_,_,_,_]) rfl rfl rfl (fun _ => ?_))
 refine yG rfl rfl (pv_eql rfl rfl) (fun q0 => ?_) (fun q0 => ?_)
 rotate_left
 ·repeat (first | refine zE ?_ | refine zK rfl rfl rfl ?_ | refine L_skip rfl rfl ?_ | refine zM ?_)
  exact ⟨[_],X,_,⟨rfl,trivial⟩,⟨bool_F (fun h => q0 (by rw [h])),rfl⟩,yK.out⟩
 ·repeat (first | refine zK rfl rfl rfl ?_ | refine zZ rfl rfl rfl rfl rfl ?_ | refine L_ld rfl rfl rfl rfl rfl ?_)
  skip
  refine yG rfl rfl (pv_eql rfl rfl) (fun q1 => ?_) (fun q1 => ?_)
  rotate_left
  ·repeat (first | refine zE ?_ | refine zK rfl rfl rfl ?_ | refine L_skip rfl rfl ?_ | refine zM ?_)
   exact ⟨[_],X,_,⟨rfl,trivial⟩,⟨bool_F (fun h => q1 (by rw [h])),rfl⟩,yK.out⟩
  ·repeat (first | refine zK rfl rfl rfl ?_ | refine zZ rfl rfl rfl rfl rfl ?_ | refine L_ld rfl rfl rfl rfl rfl ?_)
   skip
   refine yG rfl rfl (pv_eql rfl rfl) (fun q2 => ?_) (fun q2 => ?_)
   rotate_left
   ·repeat (first | refine zE ?_ | refine zK rfl rfl rfl ?_ | refine L_skip rfl rfl ?_ | refine zM ?_)
    exact ⟨[_],X,_,⟨rfl,trivial⟩,⟨bool_F (fun h => q2 (by rw [h])),rfl⟩,yK.out⟩
   ·repeat (first | refine zK rfl rfl rfl ?_ | refine zZ rfl rfl rfl rfl rfl ?_ | refine L_ld rfl rfl rfl rfl rfl ?_)
    skip
    refine yG rfl rfl (pv_eql rfl rfl) (fun q3 => ?_) (fun q3 => ?_)
    rotate_left
    ·repeat (first | refine zE ?_ | refine zK rfl rfl rfl ?_ | refine L_skip rfl rfl ?_ | refine zM ?_)
     exact ⟨[_],X,_,⟨rfl,trivial⟩,⟨bool_F (fun h => q3 (by rw [h])),rfl⟩,yK.out⟩
    ·repeat (first | refine zK rfl rfl rfl ?_ | refine zZ rfl rfl rfl rfl rfl ?_ | refine L_ld rfl rfl rfl rfl rfl ?_)
     skip
     refine yG rfl rfl (pv_eql rfl rfl) (fun q4 => ?_) (fun q4 => ?_)
     rotate_left
     ·repeat (first | refine zE ?_ | refine zK rfl rfl rfl ?_ | refine L_skip rfl rfl ?_ | refine zM ?_)
      exact ⟨[_],X,_,⟨rfl,trivial⟩,⟨bool_F (fun h => q4 (by rw [h])),rfl⟩,yK.out⟩
     ·repeat (first | refine zK rfl rfl rfl ?_ | refine zZ rfl rfl rfl rfl rfl ?_ | refine L_ld rfl rfl rfl rfl rfl ?_)
      skip
      refine zY rfl rfl (zQ rfl rfl rfl) (sameI_spec w0 X _ _ x.parts y.parts rx ry hx.1 hy.1) ?_
      rintro _ _ ⟨rfl,rfl⟩
      by_cases c0 : x.parts = y.parts
      rotate_left
      ·rw [decide_eq_false c0]
       repeat (first | refine zE ?_ | refine zK rfl rfl rfl ?_ | refine L_skip rfl rfl ?_ | refine zM ?_)
       exact ⟨[_],X,_,⟨rfl,trivial⟩,⟨bool_F (fun h => c0 (by rw [h])),rfl⟩,yK.out⟩
      ·rw [decide_eq_true c0]
       repeat (first | refine zK rfl rfl rfl ?_ | refine zZ rfl rfl rfl rfl rfl ?_ | refine L_ld rfl rfl rfl rfl rfl ?_)
       skip
       refine zY rfl rfl (zQ rfl rfl rfl) (sameWrs_spec w0 X _ _ x.writes y.writes rx2 ry2 hx.2.1 hy.2.1 hx.2.2 hy.2.2) ?_
       rintro _ _ ⟨rfl,rfl⟩
       by_cases c1 : x.writes = y.writes
       rotate_left
       ·rw [decide_eq_false c1]
        repeat (first | refine zE ?_ | refine zK rfl rfl rfl ?_ | refine zM ?_)
        exact ⟨[_],X,_,⟨rfl,trivial⟩,⟨bool_F (fun h => c1 (by rw [h])),rfl⟩,yK.out⟩
       ·rw [decide_eq_true c1]
        repeat (first | refine zE ?_ | refine zK rfl rfl rfl ?_ | refine zM ?_)
        exact ⟨[_],X,_,⟨rfl,trivial⟩,⟨bool_T (by cases x; cases y; simp only at q0 q1 q2 q3 q4 c0 c1; subst q0 q1 q2 q3 q4 c0 c1; rfl),rfl⟩,yK.out⟩
theorem samePrps_spec (w0 : World) (X : Hp) (v u : Value) (xs ys : List Prp) (hv : RdL w0 X v xs) (hu : RdL w0 X u ys) (hl : xs.length ≤ 1000000000) (hl2 : ys.length ≤ 1000000000) (hd : ∀ x ∈ xs,x.parts.length ≤ 1000000000 ∧ x.writes.length ≤ 1000000000 ∧ ∀ w ∈ x.writes,w.data.length ≤ 1000000000) (hd2 : ∀ x ∈ ys,x.parts.length ≤ 1000000000 ∧ x.writes.length ≤ 1000000000 ∧ ∀ w ∈ x.writes,w.data.length ≤ 1000000000) :
  Spec Tryz.prog w0 75 [v,u] X (fun r h' => r = .bool (decide (xs = ys)) ∧ X = h') := by
 obtain ⟨a,c,rfl⟩ := hv.shape
 obtain ⟨a2,c2,rfl⟩ := hu.shape
 refine zN Tryz.func75 rfl Tryz.ntmps75 Tryz.results75 rfl fun fr => ?_
 repeat (first | refine zF ?_ | refine zB ?_ | refine zE ?_ | refine zK rfl rfl rfl ?_ | refine L_len rfl rfl rfl ?_)
 refine yG rfl rfl (pv_neq rfl rfl) (fun n1 => ?_) (fun n1 => ?_)
 ·repeat (first | refine zF ?_ | refine zB ?_ | refine zE ?_ | refine zK rfl rfl rfl ?_ | refine zM ?_ | refine zJ rfl ?_)
  exact ⟨[_],X,_,⟨rfl,trivial⟩,⟨bool_F (fun h => n1 (by rw [h])),rfl⟩,yK.out⟩
 ·have hll : xs.length = ys.length := by omega
  repeat (first | refine zF ?_ | refine zR ?_ | refine zB ?_ | refine zE ?_ | refine zK rfl rfl rfl ?_ | refine zP ?_ | refine zI rfl ?_)
  refine hold_count xs.length (fun k g L => ∃ (R : Hp),g = [(0,.slice a xs.length c),(1,.slice a2 ys.length c2),(5,.int .i64 k)] ∧ xs.take k = ys.take k ∧ L = X + fr + R) _ ⟨0,rfl,by simp,(yB _).symm⟩ (by repeat (first | exact zT _ | refine zO rfl ?_)) ?_
  rintro k g L hk ⟨R,rfl,hpre,rfl⟩
  repeat (first | refine zF ?_ | refine zB ?_ | refine zK rfl rfl rfl ?_ | refine L_len rfl rfl rfl ?_)
  refine yG rfl rfl (pv_lss rfl rfl) (fun n2 => ?_) (fun n2 => ?_)
  ·have hx : k < xs.length := by omega
   have hy : k < ys.length := by omega
   obtain ⟨b2,o2,rfl,e,he,hat⟩ := hv.at hx
   obtain ⟨b3,o3,rfl,e',he',hat'⟩ := hu.at hy
   obtain ⟨a4,c4,a6,c6,rfl,_,_⟩ := id he
   obtain ⟨a5,c5,a7,c7,rfl,_,_⟩ := id he'
   repeat (first | refine zF ?_ | refine zR ?_ | refine zE ?_ | refine zP ?_ | refine zJ rfl ?_)
   refine yC [8] [0,1,2,3,4,5,6,7,8,9] (by kernel_rfl) rfl (by kernel_rfl) (by kernel_rfl) ?_
   repeat (first | refine yI rfl rfl rfl rfl rfl ?_ | refine W_idx rfl rfl rfl (by omega) rfl rfl rfl ?_ | refine W_atA rfl rfl (by assumption) rfl rfl rfl rfl rfl ?_)
   refine W_call rfl rfl rfl rfl (zQ rfl rfl rfl) (samePrp1_spec w0 X xs[k] ys[k] _ _ he he' (hd _ (List.getElem_mem hx)) (hd2 _ (List.getElem_mem hy))) (Kept.all _) ?_
   rintro _ _ ⟨rfl,rfl⟩
   refine ⟨(by repeat (first | exact trivial | exact zG rfl (zS rfl) | exact zL rfl rfl rfl | exact zX rfl (by assumption) rfl | exact zH rfl (by assumption) rfl | exact zH rfl (by assumption) (by assumption) | refine ⟨?_,?_⟩)),?_⟩
   by_cases e : xs[k] = ys[k]
   ·rw [decide_eq_true e]
    repeat (first | refine yJ ?_ | refine yI rfl rfl rfl rfl rfl ?_)
    repeat (first | refine zB ?_ | refine zE ?_ | refine zK rfl rfl rfl ?_ | refine zP ?_ | refine zI rfl ?_ | refine L_add rfl rfl (by omega) (by omega) rfl rfl ?_)
    exact ⟨hx,_,(by repeat (first | exact zT _ | refine zO rfl ?_)),_,rfl,take_more hx hy hpre e,yK.out⟩
   ·rw [decide_eq_false e]
    repeat (first | refine yJ ?_ | refine yI rfl rfl rfl rfl rfl ?_)
    repeat (first | refine zF ?_ | refine zB ?_ | refine zE ?_ | refine zK rfl rfl rfl ?_ | refine zM ?_ | refine zJ rfl ?_)
    exact ⟨[_],X,_,⟨rfl,trivial⟩,⟨bool_F (fun h => e (by subst h; rfl)),rfl⟩,yK.out⟩
  ·repeat (first | refine zF ?_ | refine yD ?_ | refine zB ?_ | refine zE ?_ | refine zK rfl rfl rfl ?_ | refine zM ?_ | refine zI rfl ?_)
   rw [List.take_of_length_le (by omega),List.take_of_length_le (by omega)] at hpre
   exact ⟨[_],X,_,⟨rfl,trivial⟩,⟨bool_T hpre,rfl⟩,yK.out⟩
end Sl
end Go.Proofs.YtpkealohodeifaaGreat
namespace Go.Proofs.YtpkealohodeifaaGreat
open Go Go.RowKit
namespace Sl
set_option maxHeartbeats 16000000
set_option maxRecDepth 4000
set_option synthInstance.maxHeartbeats 400000
set_option synthInstance.maxSize 100000
attribute [local irreducible] Hold HoldL HoldW
def SmallOp (o : Opn) : Prop := o.parts.length ≤ 200 ∧ o.reads.length ≤ 200 ∧ o.writes.length ≤ 200 ∧ o.data.length ≤ 4096 ∧ ∀ w ∈ o.writes,w.data.length ≤ 4096
theorem SmallOp.small {o : Opn} (h : SmallOp o) : SmallO o := ⟨by have := h.1; omega,by have := h.2.1; omega,by have := h.2.2.1; omega,by have := h.2.2.2.1; omega,fun w hw => by have := h.2.2.2.2 w hw; omega⟩
def LenO (o : Opn) : Prop := o.parts.length ≤ 140737488355328 ∧ o.reads.length ≤ 140737488355328 ∧ o.writes.length ≤ 140737488355328 ∧ o.data.length ≤ 140737488355328 ∧ ∀ w ∈ o.writes,w.data.length ≤ 140737488355328
theorem bigOp_spec (w0 : World) (X : Hp) (o : Opn) (e : List Value) (ho : Rep.rd w0 X o e) (hl : LenO o) :
  Spec Tryz.prog w0 37 [.agg e.toArray,.int .i64 200,.int .i64 4096] X (fun r h' => (r = .bool true ∨ (r = .bool false ∧ SmallOp o)) ∧ X = h') := by
 obtain ⟨x1,y1,x2,y2,x3,y3,x4,y4,rfl,r1,r2,r3,r4⟩ := ho
 obtain ⟨l1,l2,l3,l4,l5⟩ := hl
 refine zN Tryz.func37 rfl Tryz.ntmps37 Tryz.results37 rfl fun fr => ?_
 repeat (first | refine zF ?_ | refine zB ?_ | refine zE ?_ | refine zK rfl rfl rfl ?_ | refine zZ rfl rfl rfl rfl rfl ?_ | refine L_ld rfl rfl rfl rfl rfl ?_ | refine L_len rfl rfl rfl ?_ | refine L_box rfl (c := [_,_,_,_,_,_,_,_,_,_,_,_,_,_,_,_,_]) rfl rfl rfl (fun _ => ?_))
 rename_i b3
 refine yG rfl rfl (pv_gtr rfl rfl) (fun n1 => ?_) (fun n1 => ?_)
 ·repeat (first | refine zF ?_ | refine zB ?_ | refine zE ?_ | refine zK rfl rfl rfl ?_ | refine L_skip rfl rfl ?_ | refine zM ?_ | refine zJ rfl ?_)
  exact ⟨[_],X,_,⟨rfl,trivial⟩,⟨.inl rfl,rfl⟩,yK.out⟩
 repeat (first | refine zK rfl rfl rfl ?_ | refine zZ rfl rfl rfl rfl rfl ?_ | refine L_ld rfl rfl rfl rfl rfl ?_ | refine L_len rfl rfl rfl ?_)
 refine yG rfl rfl (pv_gtr rfl rfl) (fun n2 => ?_) (fun n2 => ?_)
 ·repeat (first | refine zF ?_ | refine zB ?_ | refine zE ?_ | refine zK rfl rfl rfl ?_ | refine L_skip rfl rfl ?_ | refine zM ?_ | refine zJ rfl ?_)
  exact ⟨[_],X,_,⟨rfl,trivial⟩,⟨.inl rfl,rfl⟩,yK.out⟩
 repeat (first | refine zK rfl rfl rfl ?_ | refine zZ rfl rfl rfl rfl rfl ?_ | refine L_ld rfl rfl rfl rfl rfl ?_ | refine L_len rfl rfl rfl ?_)
 refine yG rfl rfl (pv_gtr rfl rfl) (fun n3 => ?_) (fun n3 => ?_)
 ·repeat (first | refine zF ?_ | refine zB ?_ | refine zE ?_ | refine zK rfl rfl rfl ?_ | refine L_skip rfl rfl ?_ | refine zM ?_ | refine zJ rfl ?_)
  exact ⟨[_],X,_,⟨rfl,trivial⟩,⟨.inl rfl,rfl⟩,yK.out⟩
 repeat (first | refine zK rfl rfl rfl ?_ | refine zZ rfl rfl rfl rfl rfl ?_ | refine L_ld rfl rfl rfl rfl rfl ?_ | refine L_len rfl rfl rfl ?_)
 refine yG rfl rfl (pv_gtr rfl rfl) (fun n4 => ?_) (fun n4 => ?_)
 ·repeat (first | refine zF ?_ | refine zB ?_ | refine zE ?_ | refine zK rfl rfl rfl ?_ | refine zM ?_ | refine zJ rfl ?_)
  exact ⟨[_],X,_,⟨rfl,trivial⟩,⟨.inl rfl,rfl⟩,yK.out⟩
 repeat (first | refine zF ?_ | refine zR ?_ | refine zB ?_ | refine zE ?_ | refine zK rfl rfl rfl ?_ | refine zP ?_ | refine zI rfl ?_)
 refine hold_count o.writes.length (fun k g L => ∃ (m : Int) (R : Hp),g = [(2,.int .i64 4096),(3,.pointer (some ⟨b3,0,none⟩)),(7,.int .i64 m),(8,.int .i64 k)] ∧ 0 ≤ m ∧ m ≤ 4096 ∧ (∀ w ∈ o.writes.take k,w.data.length ≤ 4096) ∧
  L = X + opC b3 o (.slice x1 o.parts.length y1) (.slice x2 o.reads.length y2) (.slice x3 o.writes.length y3) (.slice x4 o.data.length y4) + fr + R) _ ⟨0,_,rfl,by omega,by omega,by simp,yK.out⟩ (by repeat (first | exact zT _ | refine zO rfl ?_)) ?_
 rintro k g L hk ⟨m,R,rfl,m0,m1,hpre,rfl⟩
 repeat (first | refine zF ?_ | refine zB ?_ | refine zK rfl rfl rfl ?_ | refine zZ rfl rfl rfl rfl rfl ?_ | refine L_ld rfl rfl rfl rfl rfl ?_ | refine L_len rfl rfl rfl ?_)
 refine yG rfl rfl (pv_lss rfl rfl) (fun n5 => ?_) (fun n5 => ?_)
 ·have hx : k < o.writes.length := by omega
  have hlw := l5 _ (List.getElem_mem hx)
  obtain ⟨bw,ow,rfl,ew,⟨a3,c3,rfl,_⟩,hat⟩ := r3.at hx
  repeat (first | refine zF ?_ | refine zR ?_ | refine zB ?_ | refine zE ?_ | refine zK rfl rfl rfl ?_ | refine zZ rfl rfl rfl rfl rfl ?_ | refine L_ld rfl rfl rfl rfl rfl ?_ | refine L_len rfl rfl rfl ?_ | refine zP ?_ | refine zJ rfl ?_ | refine L_add rfl rfl (by omega) (by omega) rfl rfl ?_ | refine L_idx rfl rfl (by omega) rfl rfl ?_ | refine L_atf rfl (by assumption) rfl rfl rfl rfl ?_)
  refine yH rfl rfl (pv_min2 rfl rfl) ?_
  repeat (first | refine zF ?_ | refine zB ?_ | refine zE ?_ | refine zK rfl rfl rfl ?_ | refine L_add rfl rfl (by omega) (by omega) rfl rfl ?_)
  refine yG rfl rfl (pv_gtr rfl rfl) (fun n6 => ?_) (fun n6 => ?_)
  ·repeat (first | refine zF ?_ | refine zB ?_ | refine zE ?_ | refine zK rfl rfl rfl ?_ | refine zM ?_ | refine zJ rfl ?_)
   exact ⟨[_],X,_,⟨rfl,trivial⟩,⟨.inl rfl,rfl⟩,yK.out⟩
  ·repeat (first | refine zB ?_ | refine zE ?_ | refine zK rfl rfl rfl ?_ | refine zP ?_ | refine zI rfl ?_ | refine L_add rfl rfl (by omega) (by omega) rfl rfl ?_)
   exact ⟨hx,_,(by repeat (first | exact zT _ | refine zO rfl ?_)),_,_,rfl,by omega,by omega,all_take_succ' hx hpre (by omega),yK.out⟩
 ·rw [List.take_of_length_le (by omega)] at hpre
  repeat (first | refine zF ?_ | refine yD ?_ | refine zB ?_ | refine zE ?_ | refine zK rfl rfl rfl ?_ | refine zM ?_ | refine zI rfl ?_)
  exact ⟨[_],X,_,⟨rfl,trivial⟩,⟨.inr ⟨rfl,by omega,by omega,by omega,by omega,hpre⟩,rfl⟩,yK.out⟩
theorem big_spec (w0 : World) (X : Hp) (v : Value) (l : List Opn) (hv : RdL w0 X v l) (hl : l.length ≤ 17592186044416) (hlo : ∀ o ∈ l,LenO o) :
  Spec Tryz.prog w0 22 [v] X (fun r h' => (r = .bool true ∨ (r = .bool false ∧ l.length ≤ 150 ∧ ∀ o ∈ l,SmallOp o)) ∧ X = h') := by
 obtain ⟨a,c,rfl⟩ := hv.shape
 refine zN Tryz.func22 rfl Tryz.ntmps22 Tryz.results22 rfl fun fr => ?_
 repeat (first | refine zF ?_ | refine zB ?_ | refine zE ?_ | refine zK rfl rfl rfl ?_ | refine L_len rfl rfl rfl ?_)
 refine yG rfl rfl (pv_gtr rfl rfl) (fun n1 => ?_) (fun n1 => ?_)
 ·repeat (first | refine zF ?_ | refine zB ?_ | refine zE ?_ | refine zK rfl rfl rfl ?_ | refine zM ?_ | refine zJ rfl ?_)
  exact ⟨[_],X,_,⟨rfl,trivial⟩,⟨.inl rfl,rfl⟩,yK.out⟩
 ·repeat (first | refine zF ?_ | refine zR ?_ | refine zB ?_ | refine zE ?_ | refine zK rfl rfl rfl ?_ | refine zP ?_ | refine zI rfl ?_)
  refine hold_count l.length (fun k g L => ∃ (R : Hp),g = [(0,.slice a l.length c),(3,.int .i64 k)] ∧ (∀ o ∈ l.take k,SmallOp o) ∧ L = X + fr + R) _ ⟨0,rfl,by simp,(yB _).symm⟩ (by repeat (first | exact zT _ | refine zO rfl ?_)) ?_
  rintro k g L hk ⟨R,rfl,hpre,rfl⟩
  repeat (first | refine zF ?_ | refine zB ?_ | refine zK rfl rfl rfl ?_ | refine L_len rfl rfl rfl ?_)
  refine yG rfl rfl (pv_lss rfl rfl) (fun n2 => ?_) (fun n2 => ?_)
  ·have hx : k < l.length := by omega
   obtain ⟨b2,o2,rfl,e,he,hat⟩ := hv.at hx
   have hb := bigOp_spec w0 X l[k] e he (hlo _ (List.getElem_mem hx))
   obtain ⟨x1,y1,x2,y2,x3,y3,x4,y4,rfl,_⟩ := id he
   repeat (first | refine zF ?_ | refine zR ?_ | refine zB ?_ | refine zE ?_ | refine zK rfl rfl rfl ?_ | refine zP ?_ | refine zJ rfl ?_ | refine L_idx rfl rfl (by omega) rfl rfl ?_ | refine L_atA rfl (by assumption) rfl rfl rfl rfl ?_)
   refine zY rfl rfl (zQ rfl rfl rfl) hb ?_
   rintro _ _ ⟨rfl | ⟨rfl,hs⟩,rfl⟩
   ·repeat (first | refine zF ?_ | refine zB ?_ | refine zE ?_ | refine zK rfl rfl rfl ?_ | refine zM ?_ | refine zJ rfl ?_)
    exact ⟨[_],X,_,⟨rfl,trivial⟩,⟨.inl rfl,rfl⟩,yK.out⟩
   ·repeat (first | refine zB ?_ | refine zE ?_ | refine zK rfl rfl rfl ?_ | refine zP ?_ | refine zI rfl ?_ | refine L_add rfl rfl (by omega) (by omega) rfl rfl ?_)
    exact ⟨hx,_,(by repeat (first | exact zT _ | refine zO rfl ?_)),_,rfl,all_take_succ' hx hpre hs,yK.out⟩
  ·rw [List.take_of_length_le (by omega)] at hpre
   repeat (first | refine zF ?_ | refine yD ?_ | refine zB ?_ | refine zE ?_ | refine zK rfl rfl rfl ?_ | refine zM ?_ | refine zI rfl ?_)
   exact ⟨[_],X,_,⟨rfl,trivial⟩,⟨.inr ⟨rfl,by omega,hpre⟩,rfl⟩,yK.out⟩
def newS (lo hi ep : Int) : Shd := ⟨lo,hi,ep,[],[],[],[],[],[],[]⟩
def FirstP (lo hi ep : Int) : Prop := 0 ≤ lo ∧ lo ≤ hi ∧ hi ≤ 64 ∧ 0 ≤ ep ∧ ep ≤ 1099511627776
abbrev nils : Value := .slice none 0 0
theorem first22_spec (w0 : World) (lo hi ep : Int) : Spec Tryz.prog w0 21 [.int .i64 lo,.int .i64 hi,.int .i64 ep] 0
  (fun r h' => (∃ q,r = .tuple #[.agg (cellsS (newS lo hi ep) nils nils nils nils nils nils nils).toArray,.bool q] ∧ (q = true → FirstP lo hi ep)) ∧ 0 = h') := by
 refine zN Tryz.func21 rfl Tryz.ntmps21 Tryz.results21 rfl fun fr => ?_
 repeat' (first|refine zF ?_|refine zB ?_|refine zE ?_|refine zK rfl rfl rfl ?_|refine L_skip rfl rfl ?_|refine zM ?_|refine L_build (vs := [_,_,_]) (cells := [_,_,_,_,_,_,_,_,_,_]) rfl rfl rfl rfl ?_|refine L_stA rfl (vs := [_,_,_,_,_,_,_,_,_,_]) rfl rfl rfl rfl (c' := [_,_,_,_,_,_,_,_,_,_]) rfl rfl ?_|refine L_alloc (c := [_,_,_,_,_,_,_,_,_,_]) rfl rfl rfl (fun _ => ?_)|refine yG rfl rfl (pv_leq rfl rfl) (fun _ => ?_) (fun _ => ?_)|refine yG rfl rfl (pv_geq rfl rfl) (fun _ => ?_) (fun _ => ?_)|exact ⟨[_,_],0,_,⟨⟨_,rfl,zL rfl rfl rfl⟩,rfl,trivial⟩,⟨⟨_,rfl,by first|exact fun _ => ⟨by omega,by omega,by omega,by omega,by omega⟩|exact fun h => Bool.noConfusion h⟩,rfl⟩,yK.out⟩|done)
theorem newS_good {lo hi ep : Int} (h : FirstP lo hi ep) : Good 0 (newS lo hi ep) := by
 obtain ⟨h1,h2,h3,h4,h5⟩ := h
 exact ⟨⟨okB_nil,⟨by simp [newS],by simp [newS]⟩,safe_nil,by simp [newS,Rises],by simp [newS]⟩,⟨by simp [newS],by simp [newS],by simp [newS],by simp [newS],by simp [newS]⟩,⟨h1,h2,h3⟩,⟨h4,h5⟩,by simp [newS],by simp [newS],by simp [newS],by simp [newS],by simp [newS],by simp [newS],by simp [newS],by simp [newS],by simp [newS],by simp [newS]⟩
theorem newS_rd (w0 : World) (X : Hp) (lo hi ep : Int) : RdShd w0 X (newS lo hi ep) (cellsS (newS lo hi ep) nils nils nils nils nils nils nils) :=
 ⟨none,0,none,0,none,0,none,0,none,0,none,0,none,0,rfl,RdL.nil _ _ _,RdL.nil _ _ _,RdL.nil _ _ _,RdL.nil _ _ _,RdL.nil _ _ _,RdL.nil _ _ _,RdL.nil _ _ _⟩
theorem one22_spec (w0 : World) (c : Int) (h0 : 0 ≤ c) (h1 : c ≤ 1000) : Spec Tryz.prog w0 41 [.int .i64 c] 0 (fun r h' => r = .int .i64 (c * 1048576 + 1) ∧ 0 = h') := by
 refine zN Tryz.func41 rfl Tryz.ntmps41 Tryz.results41 rfl fun fr => ?_
 repeat (first | refine zF ?_ | refine zB ?_ | refine zE ?_ | refine zK rfl rfl rfl ?_)
 refine yH rfl rfl (pv_shl rfl rfl (by decide)) ?_
 rw [show IntKind.i64.wrap (c * 2 ^ (min ((20 : Int).toNat) IntKind.i64.bits)) = c * 1048576 by
  rw [show (2 : Int) ^ (min ((20 : Int).toNat) IntKind.i64.bits) = 1048576 from rfl,wrap_i64_in _ (by omega) (by omega)]]
 repeat (first | refine zE ?_ | refine zK rfl rfl rfl ?_ | refine zM ?_ | refine L_add rfl rfl (by omega) (by omega) rfl rfl ?_)
 exact ⟨[_],0,_,⟨rfl,trivial⟩,⟨rfl,rfl⟩,yK.out⟩
def rd0 (seq txn age block : Int) : Opn := ⟨1,txn.fdiv 1048576,seq,txn,age,1,0,0,block,0,0,0,0,[],[],[],[]⟩
def wr0 (seq txn age block : Int) (b : Bt) : Opn := ⟨2,txn.fdiv 1048576,seq,txn,age,1,0,0,0,0,0,0,0,[1],[],[⟨block,[b,0,0,0]⟩],[]⟩
def de0 (txn value : Int) : Opn := ⟨3,0,0,txn,0,0,0,0,0,0,value,0,0,[],[],[],[]⟩
theorem read0_spec (w0 : World) (seq txn age block : Int) : Spec Tryz.prog w0 42 [.int .i64 seq,.int .i64 txn,.int .i64 age,.int .i64 block] 0 (fun r h' => r = .agg (cellsO (rd0 seq txn age block) nils nils nils nils).toArray ∧ 0 = h') := by
 refine zN Tryz.func42 rfl Tryz.ntmps42 Tryz.results42 rfl fun fr => ?_
 repeat (first | refine zF ?_ | refine zB ?_ | refine zE ?_ | refine zK rfl rfl rfl ?_ | refine L_alloc (c := [_,_,_,_,_,_,_,_,_,_,_,_,_,_,_,_,_]) rfl rfl rfl (fun _ => ?_))
 refine yH rfl rfl (pv_shr rfl rfl (by decide)) ?_
 repeat (first | refine zE ?_ | refine zK rfl rfl rfl ?_ | refine zM ?_ | refine L_build (vs := [_,_,_,_,_,_,_]) (cells := [_,_,_,_,_,_,_,_,_,_,_,_,_,_,_,_,_]) rfl rfl rfl rfl ?_ | refine L_stA rfl (vs := [_,_,_,_,_,_,_,_,_,_,_,_,_,_,_,_,_]) rfl rfl rfl rfl (c' := [_,_,_,_,_,_,_,_,_,_,_,_,_,_,_,_,_]) rfl rfl ?_)
 exact ⟨[_],0,_,⟨⟨_,rfl,zL rfl rfl rfl⟩,trivial⟩,⟨rfl,rfl⟩,yK.out⟩
theorem decide0_spec (w0 : World) (txn value : Int) : Spec Tryz.prog w0 44 [.int .i64 txn,.int .i64 value] 0 (fun r h' => r = .agg (cellsO (de0 txn value) nils nils nils nils).toArray ∧ 0 = h') := by
 refine zN Tryz.func44 rfl Tryz.ntmps44 Tryz.results44 rfl fun fr => ?_
 repeat (first | refine zF ?_ | refine zB ?_ | refine zE ?_ | refine zK rfl rfl rfl ?_ | refine zM ?_ | refine L_build (vs := [_,_,_]) (cells := [_,_,_,_,_,_,_,_,_,_,_,_,_,_,_,_,_]) rfl rfl rfl rfl ?_ | refine L_stA rfl (vs := [_,_,_,_,_,_,_,_,_,_,_,_,_,_,_,_,_]) rfl rfl rfl rfl (c' := [_,_,_,_,_,_,_,_,_,_,_,_,_,_,_,_,_]) rfl rfl ?_ | refine L_alloc (c := [_,_,_,_,_,_,_,_,_,_,_,_,_,_,_,_,_]) rfl rfl rfl (fun _ => ?_))
 exact ⟨[_],0,_,⟨⟨_,rfl,zL rfl rfl rfl⟩,trivial⟩,⟨rfl,rfl⟩,yK.out⟩
abbrev sl1 (b n : Nat) : Value := .slice (some ⟨b,0,none⟩) n n
theorem write0_spec (w0 : World) (seq txn age block : Int) (b : Bt) : Spec Tryz.prog w0 43 [.int .i64 seq,.int .i64 txn,.int .i64 age,.int .i64 block,.int .u8 (b.val : Int)] 0
  (fun r h' => ∃ b1 b2 b3,r = .agg (cellsO (wr0 seq txn age block b) (sl1 b1 1) nils (sl1 b3 1) nils).toArray ∧ pt b1 (.cells [.int .i64 1].toArray 3 (0,0)) + pt b2 (.cells [.int .u8 (b.val : Int),.int .u8 0,.int .u8 0,.int .u8 0].toArray 5 (0,0)) + pt b3 (.cells [.int .i64 block,sl1 b2 4].toArray 100 (0,0)) = h') := by
 refine zN Tryz.func43 rfl Tryz.ntmps43 Tryz.results43 rfl fun fr => ?_
 repeat (first | refine zF ?_ | refine zB ?_ | refine zE ?_ | refine zK rfl rfl rfl ?_ | refine L_alloc (c := [_,_,_,_,_,_,_,_,_,_,_,_,_,_,_,_,_]) rfl rfl rfl (fun _ => ?_))
 refine yH rfl rfl (pv_shr rfl rfl (by decide)) ?_
 repeat (first | refine zE ?_ | refine zK rfl rfl rfl ?_ | refine zM ?_ | refine L_build (vs := [_,_]) (cells := [_,_]) rfl rfl rfl rfl ?_ | refine L_build (vs := [_,_,_,_,_,_,_,_]) (cells := [_,_,_,_,_,_,_,_,_,_,_,_,_,_,_,_,_]) rfl rfl rfl rfl ?_ | refine L_stA rfl (vs := [_,_,_,_,_,_,_,_,_,_,_,_,_,_,_,_,_]) rfl rfl rfl rfl (c' := [_,_,_,_,_,_,_,_,_,_,_,_,_,_,_,_,_]) rfl rfl ?_ | refine L_bs (vs := [_]) (cells := [_]) rfl rfl rfl rfl rfl rfl (fun _ => ?_) | refine L_bs (vs := [_]) (cells := [_,_]) rfl rfl rfl rfl rfl rfl (fun _ => ?_) | refine L_bs (vs := [_,_,_,_]) (cells := [_,_,_,_]) rfl rfl rfl rfl rfl rfl (fun _ => ?_))
 rename_i b10 b16 b19 b21
 exact ⟨[_],pt b16 (.cells [.int .i64 1].toArray 3 (0,0)) + pt b19 (.cells [.int .u8 (b.val : Int),.int .u8 0,.int .u8 0,.int .u8 0].toArray 5 (0,0)) + pt b21 (.cells [.int .i64 block,sl1 b19 4].toArray 100 (0,0)),_,⟨⟨_,rfl,zL rfl rfl rfl⟩,trivial⟩,⟨b16,b19,b21,rfl,rfl⟩,yK.out⟩
def playF (s : Shd) (l : List Opn) : Shd × List Int := l.foldl (fun a o => ((applyF a.1 o).1,a.2 ++ [(applyF a.1 o).2.code])) (s,[])
theorem playF_succ (s : Shd) {l : List Opn} {k : Nat} (h : k < l.length) : playF s (l.take (k + 1)) = ((applyF (playF s (l.take k)).1 l[k]).1,(playF s (l.take k)).2 ++ [(applyF (playF s (l.take k)).1 l[k]).2.code]) := by
 unfold playF; rw [List.take_succ_eq_append_getElem h,List.foldl_append]; rfl
theorem playF_good {n : Nat} {s : Shd} (h : Good n s) {l : List Opn} (hn : n + l.length ≤ 191) : ∀ k,k ≤ l.length → Good (n + k) (playF s (l.take k)).1 ∧ (playF s (l.take k)).2.length = k
 | 0,_ => ⟨h,rfl⟩
 | k + 1,hk => by
  obtain ⟨g,hl⟩ := playF_good h hn k (by omega)
  rw [playF_succ s (show k < l.length by omega)]
  exact ⟨(applyF_good g (by omega) _).1,by simp [hl]⟩
theorem play22_spec (w0 : World) (X : Hp) (s : Shd) (es : List Value) (v : Value) (l : List Opn) (n : Nat) (hs : RdShd w0 X s es) (hv : RdL w0 X v l) (hg : Good n s) (hn : n + l.length ≤ 190) (hni : ∀ o ∈ l,NumsIn o) (hso : ∀ o ∈ l,SmallO o) :
  Spec Tryz.prog w0 32 [.agg es.toArray,v] X (fun r h' => ∃ (e1 : List Value) (vo : Value) (D ho : Hp),r = .tuple #[.agg e1.toArray,vo] ∧ RdShd w0 (X + D) (playF s l).1 e1 ∧ OwL w0 0 (playF s l).2 vo ho ∧ X + D + ho = h') := by
 obtain ⟨p1,q1,p2,q2,p3,q3,p4,q4,p5,q5,p6,q6,p7,q7,rfl,_,_,_,_,_,_,_⟩ := id hs
 obtain ⟨a,c,rfl⟩ := hv.shape
 refine zN Tryz.func32 rfl Tryz.ntmps32 Tryz.results32 rfl fun fr => ?_
 repeat (first | refine zF ?_ | refine zR ?_ | refine zB ?_ | refine zE ?_ | refine zK rfl rfl rfl ?_ | refine L_box rfl (c := [_,_,_,_,_,_,_,_,_,_]) rfl rfl rfl (fun _ => ?_) | refine L_alloc (c := [_,_,_,_,_,_,_,_,_,_]) rfl rfl rfl (fun _ => ?_))
 rename_i b2 b4
 refine hold_count l.length (fun k g L => ∃ (ek : List Value) (vo : Value) (D ho R : Hp),g = [(1,.slice a l.length c),(2,.pointer (some ⟨b2,0,none⟩)),(4,.pointer (some ⟨b4,0,none⟩)),(6,vo),(7,.int .i64 k)] ∧ RdShd w0 (X + D) (playF s (l.take k)).1 ek ∧ OwL w0 0 (playF s (l.take k)).2 vo ho ∧
  L = X + D + ho + pt b2 (.cells ek.toArray 33 (0,0)) + pt b4 (.cells [.int .i64 0,.int .i64 0,.int .i64 0,.slice none 0 0,.slice none 0 0,.slice none 0 0,.slice none 0 0,.slice none 0 0,.slice none 0 0,.slice none 0 0].toArray 33 (0,0)) + fr + R) _ ⟨_,_,0,0,_,rfl,by rw [yB]; exact hs,OwL.nil _ _,by simp only [yB]; exact yK.out⟩ (by repeat (first | exact zT _ | refine zO rfl ?_)) ?_
 rintro k g L hk ⟨ek,vo,D,ho,R,rfl,hrk,hov,rfl⟩
 obtain ⟨g1,g2⟩ := playF_good hg (l := l) (by omega) k hk
 obtain ⟨k1,qk1,k2,qk2,k3,qk3,k4,qk4,k5,qk5,k6,qk6,k7,qk7,rfl,_,_,_,_,_,_,_⟩ := id hrk
 repeat (first | refine zF ?_ | refine zB ?_ | refine zK rfl rfl rfl ?_ | refine L_len rfl rfl rfl ?_)
 refine yG rfl rfl (pv_lss rfl rfl) (fun n1 => ?_) (fun n1 => ?_)
 ·have hx : k < l.length := by omega
  have hsucc := playF_succ s hx
  obtain ⟨b7,o7,rfl,e,he,hat⟩ := hv.at hx
  have happ := apply22_spec w0 (X + D) (playF s (l.take k)).1 _ l[k] e (n + k) hrk (Rep.mono rfl he) g1 (by omega) (hni _ (List.getElem_mem hx)) (hso _ (List.getElem_mem hx))
  obtain ⟨x1,y1,x2,y2,x3,y3,x4,y4,rfl,_⟩ := id he
  repeat (first | refine zF ?_ | refine zR ?_ | refine zE ?_ | refine zP ?_ | refine zJ rfl ?_)
  refine hold_join (fun g' L' => ∃ (b8 b9 : Nat) (e1 e2 : List Value) (D2 h hr R : Hp),Sub g' [(1,.slice (some ⟨b7,o7,none⟩) l.length c),(2,.pointer (some ⟨b2,0,none⟩)),(4,.pointer (some ⟨b4,0,none⟩)),(6,vo),(7,.int .i64 k),(8,.pointer (some ⟨b8,0,none⟩)),(9,.pointer (some ⟨b9,0,none⟩))] ∧ OwShd w0 D2 (applyF (playF s (l.take k)).1 l[k]).1 e1 h ∧ OwR w0 (applyF (playF s (l.take k)).1 l[k]).2 (.agg e2.toArray) hr ∧
   L' = X + D + (D2 + h + hr) + ho + pt b2 (.cells (cellsS (playF s (l.take k)).1 (.slice k1 (playF s (l.take k)).1.blocks.length qk1) (.slice k2 (playF s (l.take k)).1.kept.length qk2) (.slice k3 (playF s (l.take k)).1.locks.length qk3) (.slice k4 (playF s (l.take k)).1.preps.length qk4) (.slice k5 (playF s (l.take k)).1.dead.length qk5) (.slice k6 (playF s (l.take k)).1.outs.length qk6) (.slice k7 (playF s (l.take k)).1.sess.length qk7)).toArray 33 (0,0)) + pt b4 (.cells [.int .i64 0,.int .i64 0,.int .i64 0,.slice none 0 0,.slice none 0 0,.slice none 0 0,.slice none 0 0,.slice none 0 0,.slice none 0 0,.slice none 0 0].toArray 33 (0,0)) + pt b8 (.cells e1.toArray 33 (0,0)) + pt b9 (.cells e2.toArray 51 (0,0)) + fr + R) ?_ ?_
  ·refine hold_drawV2 [5,9,10,11,12] [0,1,2,3,4,5,6,7,8] [10,11,12] [9,11,12] 9 8 [.int .i64 0,.int .i64 0,.int .i64 0,.slice none 0 0,.slice none 0 0,.slice none 0 0,.slice none 0 0,.slice none 0 0,.slice none 0 0,.slice none 0 0] 33 10 9 [.int .i64 0,.slice none 0 0] 51 (by kernel_rfl) rfl rfl (by kernel_rfl) (by kernel_rfl) (by kernel_rfl) (by kernel_rfl) (by kernel_rfl) (by kernel_rfl) ?_
   repeat (first | refine V2_of rfl rfl rfl rfl rfl rfl rfl rfl rfl rfl rfl ?_ | refine V2_pure rfl (pv_indexAddr rfl rfl (by omega)) rfl rfl rfl rfl rfl rfl rfl rfl rfl ?_ | refine V2_load rfl (yF rfl) (zL (vs := [_,_,_,_,_,_,_,_,_,_]) rfl rfl rfl) rfl rfl rfl rfl rfl rfl rfl rfl rfl ?_ | refine V2_load rfl (yF rfl) (zH rfl (by assumption) rfl) rfl rfl rfl rfl rfl rfl rfl rfl rfl ?_)
   refine V2_call rfl rfl rfl rfl rfl rfl rfl rfl rfl (zQ rfl rfl rfl) happ (Kept.all _) rfl rfl rfl rfl rfl rfl rfl rfl rfl ?_
   rintro _ _ ⟨e1,e2,D2,h,hr,rfl,how,hor,rfl⟩
   obtain ⟨m1,qm1,m2,qm2,m3,qm3,m4,qm4,m5,qm5,m6,qm6,m7,qm7,w1,w2,w3,w4,w5,w6,w7,rfl,_,_,_,_,_,_,_,rfl⟩ := id how
   obtain ⟨a8,c8,e28,_⟩ := id hor
   obtain rfl : e2 = [.int .i64 (applyF (playF s (l.take k)).1 l[k]).2.code,.slice a8 (applyF (playF s (l.take k)).1 l[k]).2.data.length c8] := by simpa using e28
   refine ⟨(by repeat (first | exact trivial | exact zG rfl (zS rfl) | exact zL rfl rfl rfl | exact zX rfl (by assumption) rfl | exact zH rfl (by assumption) rfl | exact zH rfl (by assumption) (by assumption) | refine ⟨?_,?_⟩)),?_⟩
   repeat (refine V2_of rfl rfl rfl rfl rfl rfl rfl rfl rfl rfl rfl ?_)
   refine V2_now rfl rfl rfl rfl rfl rfl (fun b8 => ?_) (fun b9 => ?_)
   ·refine V_now rfl rfl rfl rfl (fun b9 => ?_)
    refine W_eff rfl rfl rfl rfl (ev_storeA (vs := [_,_,_,_,_,_,_,_,_,_]) rfl rfl rfl rfl (c := [_,_,_,_,_,_,_,_,_,_]) (Nat.le_of_ble_eq_true rfl) (c' := [_,_,_,_,_,_,_,_,_,_]) rfl) (Kept.all _) ?_
    rintro _ _ rfl
    refine ⟨(by repeat (first | exact trivial | exact zG rfl (zS rfl) | exact zL rfl rfl rfl | exact zX rfl (by assumption) rfl | exact zH rfl (by assumption) rfl | exact zH rfl (by assumption) (by assumption) | refine ⟨?_,?_⟩)),?_⟩
    skip
    refine W_eff rfl rfl rfl rfl (ev_storeA (vs := [_,_]) rfl rfl rfl rfl (c := [_,_]) (Nat.le_of_ble_eq_true rfl) (c' := [_,_]) rfl) (Kept.all _) ?_
    rintro _ _ rfl
    refine ⟨(by repeat (first | exact trivial | exact zG rfl (zS rfl) | exact zL rfl rfl rfl | exact zX rfl (by assumption) rfl | exact zH rfl (by assumption) rfl | exact zH rfl (by assumption) (by assumption) | refine ⟨?_,?_⟩)),?_⟩
    repeat (refine yJ ?_)
    exact ⟨b8,b9,_,_,D2,_,hr,_,(by repeat (first | exact zT _ | refine zO rfl ?_)),how,hor,yK.out⟩
   ·refine V_now rfl rfl rfl rfl (fun b8 => ?_)
    refine W_eff rfl rfl rfl rfl (ev_storeA (vs := [_,_,_,_,_,_,_,_,_,_]) rfl rfl rfl rfl (c := [_,_,_,_,_,_,_,_,_,_]) (Nat.le_of_ble_eq_true rfl) (c' := [_,_,_,_,_,_,_,_,_,_]) rfl) (Kept.all _) ?_
    rintro _ _ rfl
    refine ⟨(by repeat (first | exact trivial | exact zG rfl (zS rfl) | exact zL rfl rfl rfl | exact zX rfl (by assumption) rfl | exact zH rfl (by assumption) rfl | exact zH rfl (by assumption) (by assumption) | refine ⟨?_,?_⟩)),?_⟩
    skip
    refine W_eff rfl rfl rfl rfl (ev_storeA (vs := [_,_]) rfl rfl rfl rfl (c := [_,_]) (Nat.le_of_ble_eq_true rfl) (c' := [_,_]) rfl) (Kept.all _) ?_
    rintro _ _ rfl
    refine ⟨(by repeat (first | exact trivial | exact zG rfl (zS rfl) | exact zL rfl rfl rfl | exact zX rfl (by assumption) rfl | exact zH rfl (by assumption) rfl | exact zH rfl (by assumption) (by assumption) | refine ⟨?_,?_⟩)),?_⟩
    repeat (refine yJ ?_)
    exact ⟨b8,b9,_,_,D2,_,hr,_,(by repeat (first | exact zT _ | refine zO rfl ?_)),how,hor,yK.out⟩
  ·rintro g' _ ⟨b8,b9,e1,e2,D2,h,hr,R,hsub,how,hor,rfl⟩
   refine hold_env hsub ?_
   clear hsub g'
   have hrd2 : RdShd w0 (D2 + h) (playF s (l.take (k + 1))).1 e1 := by rw [hsucc]; exact how.rd
   obtain ⟨m1,qm1,m2,qm2,m3,qm3,m4,qm4,m5,qm5,m6,qm6,m7,qm7,w1,w2,w3,w4,w5,w6,w7,rfl,_,_,_,_,_,_,_,rfl⟩ := id how
   obtain ⟨a8,c8,e28,_⟩ := id hor
   obtain rfl : e2 = [.int .i64 (applyF (playF s (l.take k)).1 l[k]).2.code,.slice a8 (applyF (playF s (l.take k)).1 l[k]).2.data.length c8] := by simpa using e28
   repeat (first | refine zF ?_ | refine zB ?_ | refine zE ?_ | refine zK rfl rfl rfl ?_ | refine zZ rfl rfl rfl rfl rfl ?_ | refine L_ld rfl rfl rfl rfl rfl ?_ | refine L_ldA rfl (vs := [_,_,_,_,_,_,_,_,_,_]) rfl rfl rfl rfl rfl ?_ | refine L_stA rfl (vs := [_,_,_,_,_,_,_,_,_,_]) rfl rfl rfl rfl (c' := [_,_,_,_,_,_,_,_,_,_]) rfl rfl ?_ | refine L_bs (vs := [_]) (cells := [_]) rfl rfl rfl rfl rfl rfl (fun _ => ?_))
   refine L_eff rfl rfl (ev_appendL (X := 0) (ns := [(applyF (playF s (l.take k)).1 l[k]).2.code]) (h := ho) rfl rfl hov (rd_one rfl) (All2.one rfl) rfl rfl rfl rfl rfl (by rw [g2,List.length_singleton]; omega)) ?_
   rintro vo' _ ⟨ho',hov',rfl⟩
   repeat (first | refine zB ?_ | refine zE ?_ | refine zK rfl rfl rfl ?_ | refine L_add rfl rfl (by omega) (by omega) rfl rfl ?_)
   exact ⟨hx,_,(by repeat (first | exact zT _ | refine zO rfl ?_)),_,vo',D + (D2 + (w1 + w2 + w3 + w4 + w5 + w6 + w7)),ho',_,rfl,hrd2.mono (show X + (D + (D2 + (w1 + w2 + w3 + w4 + w5 + w6 + w7))) = (D2 + (w1 + w2 + w3 + w4 + w5 + w6 + w7)) + (X + D) by ac_rfl),by rw [hsucc]; exact hov',yK.out⟩
 ·rw [List.take_of_length_le (by omega)] at hrk hov ⊢
  repeat (first | refine zF ?_ | refine yD ?_ | refine zB ?_ | refine zE ?_ | refine zK rfl rfl rfl ?_ | refine zM ?_ | refine zI rfl ?_ | refine L_ldA rfl (vs := [_,_,_,_,_,_,_,_,_,_]) rfl rfl rfl rfl rfl ?_ | refine L_stA rfl (vs := [_,_,_,_,_,_,_,_,_,_]) rfl rfl rfl rfl (c' := [_,_,_,_,_,_,_,_,_,_]) rfl rfl ?_)
  exact ⟨[_,_],X + D + ho,_,⟨⟨_,rfl,zL rfl rfl rfl⟩,rfl,trivial⟩,⟨_,vo,D,ho,rfl,hrk,hov,rfl⟩,yK.out⟩
end Sl
end Go.Proofs.YtpkealohodeifaaGreat
namespace Go.Proofs.YtpkealohodeifaaGreat
open Go Go.RowKit
namespace Sl
set_option maxHeartbeats 16000000
set_option maxRecDepth 4000
set_option synthInstance.maxHeartbeats 400000
set_option synthInstance.maxSize 100000
attribute [local irreducible] Hold HoldL HoldW
abbrev worksOps : List Opn := [rd0 1 1048577 5 4,wr0 1 2097153 3 4 7,rd0 2 1048577 5 5,rd0 3 1048578 9 4,de0 2097153 1]
theorem works_codes : (playF (newS 0 10 1) worksOps).2 = [0,0,24,11,0] := by decide +kernel
theorem works_last : (applyF (playF (newS 0 10 1) worksOps).1 (rd0 4 1048578 9 4)).2 = ⟨0,[7,0,0,0]⟩ ∧ (applyF (playF (newS 0 10 1) worksOps).1 (rd0 4 1048578 9 4)).1.locks.length = 1 := by decide +kernel
theorem rd0_rd (w0 : World) (X : Hp) (seq txn age block : Int) : Rep.rd w0 X (rd0 seq txn age block) (cellsO (rd0 seq txn age block) nils nils nils nils) :=
 ⟨none,0,none,0,none,0,none,0,rfl,RdL.nil _ _ _,RdL.nil _ _ _,RdL.nil _ _ _,RdL.nil _ _ _⟩
theorem de0_rd (w0 : World) (X : Hp) (txn value : Int) : Rep.rd w0 X (de0 txn value) (cellsO (de0 txn value) nils nils nils nils) :=
 ⟨none,0,none,0,none,0,none,0,rfl,RdL.nil _ _ _,RdL.nil _ _ _,RdL.nil _ _ _,RdL.nil _ _ _⟩
abbrev wrH (b1 b2 b3 : Nat) (block : Int) (b : Bt) : Hp := pt b1 (.cells [.int .i64 1].toArray 3 (0,0)) + pt b2 (.cells [.int .u8 (b.val : Int),.int .u8 0,.int .u8 0,.int .u8 0].toArray 5 (0,0)) + pt b3 (.cells [.int .i64 block,sl1 b2 4].toArray 100 (0,0))
theorem wr0_rd (w0 : World) (seq txn age block : Int) (b : Bt) (b1 b2 b3 : Nat) : Rep.rd w0 (wrH b1 b2 b3 block b) (wr0 seq txn age block b) (cellsO (wr0 seq txn age block b) (sl1 b1 1) nils (sl1 b3 1) nils) := by
 have hp : RdL w0 (pt b1 (.cells [.int .i64 1].toArray 3 (0,0))) (sl1 b1 1) [(1 : Int)] := ints_block (b := b1) [1] (by simp)
 have hb : OwL w0 0 [b,0,0,0] (sl1 b2 4) (pt b2 (.cells [.int .u8 (b.val : Int),.int .u8 0,.int .u8 0,.int .u8 0].toArray 5 (0,0))) :=
  OwL.block (ρ := repB) (xs := [b,0,0,0]) (es := [cellB b,cellB 0,cellB 0,cellB 0]) (b := b2) (rdB_enc.2 rfl) (by simp [maxLen])
 have hw : OwL w0 (pt b2 (.cells [.int .u8 (b.val : Int),.int .u8 0,.int .u8 0,.int .u8 0].toArray 5 (0,0))) [(⟨block,[b,0,0,0]⟩ : Wr)] (sl1 b3 1) (pt b3 (.cells [.int .i64 block,sl1 b2 4].toArray 100 (0,0))) :=
  OwL.block (ρ := repWr) (xs := [(⟨block,[b,0,0,0]⟩ : Wr)]) (es := [[.int .i64 block,sl1 b2 4]]) (b := b3) (All2.one (show Rep.rd w0 _ (⟨block,[b,0,0,0]⟩ : Wr) _ from ⟨some ⟨b2,0,none⟩,4,rfl,hb.rdh⟩)) (by simp [maxLen])
 exact ⟨some ⟨b1,0,none⟩,1,none,0,some ⟨b3,0,none⟩,1,none,0,rfl,hp.mono (hadd_assoc _ _ _),RdL.nil _ _ _,hw.rd0.mono (show wrH b1 b2 b3 block b = _ + pt b1 _ by unfold wrH; ac_rfl),RdL.nil _ _ _⟩
theorem works22_spec (w0 : World) : Spec Tryz.prog w0 10 [] 0 (fun r h' => r = .bool true ∧ 0 = h') := by
 have hg0 : Good 0 (newS 0 10 1) := newS_good (by unfold FirstP; omega)
 refine zN Tryz.func10 rfl Tryz.ntmps10 Tryz.results10 rfl fun fr => ?_
 repeat (first | refine zF ?_ | refine zB ?_ | refine zE ?_ | refine zK rfl rfl rfl ?_)
 refine zY rfl rfl (zQ rfl rfl rfl) (one22_spec w0 1 (by omega) (by omega)) ?_
 rintro _ _ ⟨rfl,rfl⟩
 rw [show (1 : Int) * 1048576 + 1 = 1048577 from rfl]
 skip
 refine zY rfl rfl (zQ rfl rfl rfl) (one22_spec w0 2 (by omega) (by omega)) ?_
 rintro _ _ ⟨rfl,rfl⟩
 rw [show (2 : Int) * 1048576 + 1 = 2097153 from rfl]
 repeat (first | refine zF ?_ | refine zB ?_ | refine zE ?_ | refine zK rfl rfl rfl ?_ | refine L_build (vs := [_,_]) (cells := [_,_,_,_,_,_,_,_,_,_]) rfl rfl rfl rfl ?_)
 refine zY rfl rfl (zQ rfl rfl rfl) (read0_spec w0 1 1048577 5 4) ?_
 rintro _ _ ⟨rfl,rfl⟩
 repeat (refine zK rfl rfl rfl ?_)
 refine zY rfl rfl (zQ rfl rfl rfl) (write0_spec w0 1 2097153 3 4 7) ?_
 rintro _ _ ⟨c1,c2,c3,rfl,rfl⟩
 repeat (refine zK rfl rfl rfl ?_)
 refine zY rfl rfl (zQ rfl rfl rfl) (read0_spec w0 2 1048577 5 5) ?_
 rintro _ _ ⟨rfl,rfl⟩
 repeat (first | refine zK rfl rfl rfl ?_ | refine L_add rfl rfl (by omega) (by omega) rfl rfl ?_)
 rw [show (1048577 : Int) + 1 = 1048578 from rfl]
 refine zY rfl rfl (zQ rfl rfl rfl) (read0_spec w0 3 1048578 9 4) ?_
 rintro _ _ ⟨rfl,rfl⟩
 repeat (refine zK rfl rfl rfl ?_)
 refine zY rfl rfl (zQ rfl rfl rfl) (decide0_spec w0 2097153 1) ?_
 rintro _ _ ⟨rfl,rfl⟩
 repeat (refine L_bs (vs := [_,_,_,_,_]) (cells := [_,_,_,_,_,_,_,_,_,_,_,_,_,_,_,_,_,_,_,_,_,_,_,_,_,_,_,_,_,_,_,_,_,_,_,_,_,_,_,_,_,_,_,_,_,_,_,_,_,_,_,_,_,_,_,_,_,_,_,_,_,_,_,_,_,_,_,_,_,_,_,_,_,_,_,_,_,_,_,_,_,_,_,_,_]) rfl rfl rfl rfl rfl rfl (fun _ => ?_))
 rename_i bl
 have hops : OwL w0 (wrH c1 c2 c3 4 7) worksOps (sl1 bl 5) (pt bl (.cells ([cellsO (rd0 1 1048577 5 4) nils nils nils nils,cellsO (wr0 1 2097153 3 4 7) (sl1 c1 1) nils (sl1 c3 1) nils,cellsO (rd0 2 1048577 5 5) nils nils nils nils,cellsO (rd0 3 1048578 9 4) nils nils nils nils,cellsO (de0 2097153 1) nils nils nils nils] : List (List Value)).flatten.toArray 49 (0,0))) :=
  OwL.block (ρ := repOpn) (xs := worksOps) (b := bl) ⟨rd0_rd w0 _ 1 1048577 5 4,wr0_rd w0 1 2097153 3 4 7 c1 c2 c3,rd0_rd w0 _ 2 1048577 5 5,rd0_rd w0 _ 3 1048578 9 4,de0_rd w0 _ 2097153 1,trivial⟩ (by simp [maxLen])
 have hplay := play22_spec w0 _ (newS 0 10 1) _ (sl1 bl 5) worksOps 0 (newS_rd w0 _ 0 10 1) hops.rd0 hg0 (by decide) (by unfold NumsIn; decide) (by intro o ho; simp only [worksOps,List.mem_cons,List.not_mem_nil,or_false] at ho; rcases ho with rfl | rfl | rfl | rfl | rfl <;> (unfold SmallO; simp [rd0,wr0,de0]))
 obtain ⟨g5,hcl⟩ := playF_good hg0 (l := worksOps) (by decide) 5 (by decide)
 rw [show worksOps.take 5 = worksOps from rfl] at g5 hcl
 obtain ⟨wl1,wl2⟩ := works_last
 rw [works_codes] at hplay
 generalize hpl : (playF (newS 0 10 1) worksOps).1 = s5 at *
 skip
 refine holdL_heap (R := 0) (pt bl (.cells ([cellsO (rd0 1 1048577 5 4) nils nils nils nils,cellsO (wr0 1 2097153 3 4 7) (sl1 c1 1) nils (sl1 c3 1) nils,cellsO (rd0 2 1048577 5 5) nils nils nils nils,cellsO (rd0 3 1048578 9 4) nils nils nils nils,cellsO (de0 2097153 1) nils nils nils nils] : List (List Value)).flatten.toArray 49 (0,0)) + (wrH c1 c2 c3 4 7 + fr)) (by simp only [hzero_add,yB]; rfl) ?_
 refine zY rfl rfl (zQ rfl rfl rfl) hplay ?_
 rintro _ _ ⟨e1,vo,D,ho,rfl,hrd,hov,rfl⟩
 generalize wrH c1 c2 c3 4 7 + pt bl (.cells ([cellsO (rd0 1 1048577 5 4) nils nils nils nils,cellsO (wr0 1 2097153 3 4 7) (sl1 c1 1) nils (sl1 c3 1) nils,cellsO (rd0 2 1048577 5 5) nils nils nils nils,cellsO (rd0 3 1048578 9 4) nils nils nils nils,cellsO (de0 2097153 1) nils nils nils nils] : List (List Value)).flatten.toArray 49 (0,0)) = Y at *
 have happ := apply22_spec w0 (Y + D) s5 e1 (rd0 4 1048578 9 4) (cellsO (rd0 4 1048578 9 4) nils nils nils nils) 5 hrd (rd0_rd w0 _ 4 1048578 9 4) (by simpa using g5) (by omega) (by unfold NumsIn; decide) (by unfold SmallO; simp [rd0])
 obtain ⟨k1,qk1,k2,qk2,k3,qk3,k4,qk4,k5,qk5,k6,qk6,k7,qk7,rfl,_,_,_,_,_,_,_⟩ := id hrd
 obtain ⟨av,cv,rfl⟩ := hov.shape
 generalize applyF s5 (rd0 4 1048578 9 4) = ap at *
 obtain ⟨s6,r6⟩ := ap
 simp only at wl1 wl2
 subst wl1
 repeat (first | refine zF ?_ | refine zE ?_ | refine zK rfl rfl rfl ?_ | refine L_stA rfl (vs := [_,_,_,_,_,_,_,_,_,_]) rfl rfl rfl rfl (c' := [_,_,_,_,_,_,_,_,_,_]) rfl rfl ?_ | refine L_alloc (c := [_,_,_,_,_,_,_,_,_,_]) rfl rfl rfl (fun _ => ?_))
 rename_i b3
 refine hold_join (fun g' L' => ∃ (b8 b9 : Nat) (e1 e2 : List Value) (D2 h hr R : Hp),Sub g' [(4,.slice av 5 cv),(5,.pointer (some ⟨b8,0,none⟩)),(6,.pointer (some ⟨b9,0,none⟩))] ∧ OwShd w0 D2 s6 e1 h ∧ OwR w0 ⟨0,[7,0,0,0]⟩ (.agg e2.toArray) hr ∧
  L' = (D2 + h + hr) + ho + pt b8 (.cells e1.toArray 33 (0,0)) + pt b9 (.cells e2.toArray 51 (0,0)) + fr + R) ?_ ?_
 ·refine hold_drawV2 [3,4,8,9,10,11] [0,1,2,3,4,5,6,7] [9,10,11] [8,10,11] 8 5 [.int .i64 0,.int .i64 0,.int .i64 0,.slice none 0 0,.slice none 0 0,.slice none 0 0,.slice none 0 0,.slice none 0 0,.slice none 0 0,.slice none 0 0] 33 9 6 [.int .i64 0,.slice none 0 0] 51 (by kernel_rfl) rfl rfl (by kernel_rfl) (by kernel_rfl) (by kernel_rfl) (by kernel_rfl) (by kernel_rfl) (by kernel_rfl) ?_
  repeat (first | refine V2_of rfl rfl rfl rfl rfl rfl rfl rfl rfl rfl rfl ?_ | refine V2_pure rfl (pv_add rfl rfl (by omega) (by omega)) rfl rfl rfl rfl rfl rfl rfl rfl rfl ?_ | refine V2_load rfl (yF rfl) (zL (vs := [_,_,_,_,_,_,_,_,_,_]) rfl rfl rfl) rfl rfl rfl rfl rfl rfl rfl rfl rfl ?_)
  rw [show (1048577 : Int) + 1 = 1048578 from rfl]
  refine V2_call rfl rfl rfl rfl rfl rfl rfl rfl rfl (zQ rfl rfl rfl) (read0_spec w0 4 1048578 9 4) (Kept.all _) rfl rfl rfl rfl rfl rfl rfl rfl rfl ?_
  rintro _ _ ⟨rfl,rfl⟩
  refine ⟨(by repeat (first | exact trivial | exact zG rfl (zS rfl) | exact zL rfl rfl rfl | exact zX rfl (by assumption) rfl | exact zH rfl (by assumption) rfl | exact zH rfl (by assumption) (by assumption) | refine ⟨?_,?_⟩)),?_⟩
  refine V2_call rfl rfl rfl rfl rfl rfl rfl rfl rfl (zQ rfl rfl rfl) happ (Kept.all _) rfl rfl rfl rfl rfl rfl rfl rfl rfl ?_
  rintro _ _ ⟨e1,e2,D2,h,hr,rfl,how,hor,rfl⟩
  obtain ⟨m1,qm1,m2,qm2,m3,qm3,m4,qm4,m5,qm5,m6,qm6,m7,qm7,w1,w2,w3,w4,w5,w6,w7,rfl,_,_,_,_,_,_,_,rfl⟩ := id how
  obtain ⟨a8,c8,e28,_⟩ := id hor
  obtain rfl : e2 = [.int .i64 0,.slice a8 4 c8] := by simpa using e28
  refine ⟨(by repeat (first | exact trivial | exact zG rfl (zS rfl) | exact zL rfl rfl rfl | exact zX rfl (by assumption) rfl | exact zH rfl (by assumption) rfl | exact zH rfl (by assumption) (by assumption) | refine ⟨?_,?_⟩)),?_⟩
  repeat (refine V2_of rfl rfl rfl rfl rfl rfl rfl rfl rfl rfl rfl ?_)
  refine V2_now rfl rfl rfl rfl rfl rfl (fun b8 => ?_) (fun b9 => ?_)
  ·refine V_now rfl rfl rfl rfl (fun b9 => ?_)
   refine W_eff rfl rfl rfl rfl (ev_storeA (vs := [_,_,_,_,_,_,_,_,_,_]) rfl rfl rfl rfl (c := [_,_,_,_,_,_,_,_,_,_]) (Nat.le_of_ble_eq_true rfl) (c' := [_,_,_,_,_,_,_,_,_,_]) rfl) (Kept.all _) ?_
   rintro _ _ rfl
   refine ⟨(by repeat (first | exact trivial | exact zG rfl (zS rfl) | exact zL rfl rfl rfl | exact zX rfl (by assumption) rfl | exact zH rfl (by assumption) rfl | exact zH rfl (by assumption) (by assumption) | refine ⟨?_,?_⟩)),?_⟩
   skip
   refine W_eff rfl rfl rfl rfl (ev_storeA (vs := [_,_]) rfl rfl rfl rfl (c := [_,_]) (Nat.le_of_ble_eq_true rfl) (c' := [_,_]) rfl) (Kept.all _) ?_
   rintro _ _ rfl
   refine ⟨(by repeat (first | exact trivial | exact zG rfl (zS rfl) | exact zL rfl rfl rfl | exact zX rfl (by assumption) rfl | exact zH rfl (by assumption) rfl | exact zH rfl (by assumption) (by assumption) | refine ⟨?_,?_⟩)),?_⟩
   repeat (refine yJ ?_)
   exact ⟨b8,b9,_,_,D2,_,hr,_,(by repeat (first | exact zT _ | refine zO rfl ?_)),how,hor,yK.out⟩
  ·refine V_now rfl rfl rfl rfl (fun b8 => ?_)
   refine W_eff rfl rfl rfl rfl (ev_storeA (vs := [_,_,_,_,_,_,_,_,_,_]) rfl rfl rfl rfl (c := [_,_,_,_,_,_,_,_,_,_]) (Nat.le_of_ble_eq_true rfl) (c' := [_,_,_,_,_,_,_,_,_,_]) rfl) (Kept.all _) ?_
   rintro _ _ rfl
   refine ⟨(by repeat (first | exact trivial | exact zG rfl (zS rfl) | exact zL rfl rfl rfl | exact zX rfl (by assumption) rfl | exact zH rfl (by assumption) rfl | exact zH rfl (by assumption) (by assumption) | refine ⟨?_,?_⟩)),?_⟩
   skip
   refine W_eff rfl rfl rfl rfl (ev_storeA (vs := [_,_]) rfl rfl rfl rfl (c := [_,_]) (Nat.le_of_ble_eq_true rfl) (c' := [_,_]) rfl) (Kept.all _) ?_
   rintro _ _ rfl
   refine ⟨(by repeat (first | exact trivial | exact zG rfl (zS rfl) | exact zL rfl rfl rfl | exact zX rfl (by assumption) rfl | exact zH rfl (by assumption) rfl | exact zH rfl (by assumption) (by assumption) | refine ⟨?_,?_⟩)),?_⟩
   repeat (refine yJ ?_)
   exact ⟨b8,b9,_,_,D2,_,hr,_,(by repeat (first | exact zT _ | refine zO rfl ?_)),how,hor,yK.out⟩
 ·rintro g' _ ⟨b8,b9,e1,e2,D2,h,hr,R,hsub,how,hor,rfl⟩
  refine hold_env hsub ?_
  clear hsub g'
  obtain ⟨m1,qm1,m2,qm2,m3,qm3,m4,qm4,m5,qm5,m6,qm6,m7,qm7,w1,w2,w3,w4,w5,w6,w7,rfl,_,_,_,_,_,_,_,rfl⟩ := id how
  obtain ⟨a8,c8,e28,o8⟩ := id hor
  obtain rfl : e2 = [.int .i64 0,.slice a8 4 c8] := by simpa using e28
  repeat (first | refine zF ?_ | refine zB ?_ | refine zK rfl rfl rfl ?_ | refine L_bs (vs := [_,_,_,_,_]) (cells := [_,_,_,_,_]) rfl rfl rfl rfl rfl rfl (fun _ => ?_))
  rename_i bc
  have hsi := sameI_spec w0 (ho + intsAt bc [0,0,24,11,0]) (.slice av 5 cv) (sl1 bc 5) [0,0,24,11,0] [0,0,24,11,0] (hov.rdh.mono rfl) ((ints_block (b := bc) [0,0,24,11,0] (by simp)).mono (hadd_comm _ _)) (by simp) (by simp)
  change Spec _ _ _ _ (ho + pt bc (.cells [.int .i64 0,.int .i64 0,.int .i64 24,.int .i64 11,.int .i64 0].toArray 3 (0,0))) _ at hsi
  refine zY rfl rfl (zQ rfl rfl rfl) hsi ?_
  rintro _ _ ⟨rfl,rfl⟩
  rw [decide_eq_true (rfl : ([0,0,24,11,0] : List Int) = [0,0,24,11,0])]
  repeat (first | refine zK rfl rfl rfl ?_ | refine zZ rfl rfl rfl rfl rfl ?_ | refine L_ld rfl rfl rfl rfl rfl ?_)
  refine L_yes rfl rfl (pv_eql rfl rfl) rfl ?_
  repeat (first | refine zK rfl rfl rfl ?_ | refine zZ rfl rfl rfl rfl rfl ?_ | refine L_ld rfl rfl rfl rfl rfl ?_ | refine L_bs (vs := [_,_,_,_]) (cells := [_,_,_,_]) rfl rfl rfl rfl rfl rfl (fun _ => ?_))
  rename_i bd
  have hbd : RdL w0 (pt bd (.cells [.int .u8 7,.int .u8 0,.int .u8 0,.int .u8 0].toArray 5 (0,0))) (sl1 bd 4) ([7,0,0,0] : List Bt) :=
   (OwL.block (ρ := repB) (w0 := w0) (X := 0) (xs := [7,0,0,0]) (es := [cellB 7,cellB 0,cellB 0,cellB 0]) (b := bd) (rdB_enc.2 rfl) (by simp [maxLen])).rdh
  refine zY rfl rfl (zQ rfl rfl rfl) (sameB_spec w0 (hr + pt bd (.cells [.int .u8 7,.int .u8 0,.int .u8 0,.int .u8 0].toArray 5 (0,0))) (.slice a8 4 c8) (sl1 bd 4) [7,0,0,0] [7,0,0,0] (o8.rdh.mono rfl) (hbd.mono (hadd_comm _ _)) (by simp) (by simp)) ?_
  rintro _ _ ⟨rfl,rfl⟩
  rw [decide_eq_true (rfl : ([7,0,0,0] : List Bt) = [7,0,0,0])]
  repeat (first | refine zK rfl rfl rfl ?_ | refine zZ rfl rfl rfl rfl rfl ?_ | refine L_ld rfl rfl rfl rfl rfl ?_ | refine L_len rfl rfl rfl ?_)
  rw [wl2]
  refine L_yes rfl rfl (pv_eql rfl rfl) rfl ?_
  repeat (first | refine zE ?_ | refine zK rfl rfl rfl ?_ | refine zM ?_)
  exact ⟨[_],0,_,⟨rfl,trivial⟩,⟨rfl,rfl⟩,yK.out⟩
end Sl
end Go.Proofs.YtpkealohodeifaaGreat
namespace Go.Proofs.YtpkealohodeifaaGreat
open Go Go.RowKit
namespace Sl
set_option maxHeartbeats 16000000
set_option maxRecDepth 4000
set_option synthInstance.maxHeartbeats 400000
set_option synthInstance.maxSize 100000
attribute [local irreducible] Hold HoldL HoldW
structure SizeS (s : Shd) : Prop where
 bl : s.blocks.length ≤ 1000000000 ∧ ∀ x ∈ s.blocks,x.data.length ≤ 1000000000
 kp : s.kept.length ≤ 1000000000 ∧ ∀ x ∈ s.kept,x.data.length ≤ 1000000000
 lk : s.locks.length ≤ 1000000000
 pr : s.preps.length ≤ 1000000000 ∧ ∀ x ∈ s.preps,x.parts.length ≤ 1000000000 ∧ x.writes.length ≤ 1000000000 ∧ ∀ w ∈ x.writes,w.data.length ≤ 1000000000
 dd : s.dead.length ≤ 1000000000
 ou : s.outs.length ≤ 1000000000 ∧ ∀ x ∈ s.outs,x.data.length ≤ 1000000000
 se : s.sess.length ≤ 1000000000 ∧ ∀ x ∈ s.sess,x.res.data.length ≤ 1000000000
theorem Good.sizeS {n : Nat} {s : Shd} (h : Good n s) (hn : n ≤ 200) : SizeS s := by
 have hb := rise_len (fun x : Blk => x.no) s.blocks 0 64 (by omega) h.ok.blocks.2 (fun x hx => ⟨(h.ok.blocks.1 x hx).1,(h.ok.blocks.1 x hx).2.1⟩)
 refine ⟨⟨by omega,fun x hx => by have := (h.ok.blocks.1 x hx).2.2.1; omega⟩,⟨by have := h.kl; omega,fun x hx => by have := h.ok.kept.1 x hx; omega⟩,by have := h.ok.locks.few; omega,⟨by have := h.pl; omega,fun x hx => ?_⟩,by have := h.dl; omega,⟨by have := h.ol; omega,fun x hx => by have := (h.outs x hx).2; omega⟩,⟨by have := h.xl; omega,fun x hx => by have := (h.sess x hx).2.2; omega⟩⟩
 have hp := h.prs x hx
 exact ⟨by have := hp.parts.1; omega,by have := hp.writes.1; omega,fun w hw => by have := (hp.writes.2 w hw).2; omega⟩
theorem sameShd1_spec (w0 : World) (X : Hp) (x y : Shd) (e f : List Value) (he : RdShd w0 X x e) (hf : RdShd w0 X y f) (hx : SizeS x) (hy : SizeS y) :
  Spec Tryz.prog w0 14 [.agg e.toArray,.agg f.toArray] X (fun r h' => r = .bool (decide (x = y)) ∧ X = h') := by
 obtain ⟨x1,qx1,x2,qx2,x3,qx3,x4,qx4,x5,qx5,x6,qx6,x7,qx7,rfl,rx1,rx2,rx3,rx4,rx5,rx6,rx7⟩ := he
 obtain ⟨y1,qy1,y2,qy2,y3,qy3,y4,qy4,y5,qy5,y6,qy6,y7,qy7,rfl,ry1,ry2,ry3,ry4,ry5,ry6,ry7⟩ := hf
 refine zN Tryz.func14 rfl Tryz.ntmps14 Tryz.results14 rfl fun fr => ?_
 repeat (first | refine zF ?_ | refine zB ?_ | refine zE ?_ | refine zK rfl rfl rfl ?_ | refine zZ rfl rfl rfl rfl rfl ?_ | refine L_ld rfl rfl rfl rfl rfl ?_ | refine L_box rfl (c := [_,_,_,_,_,_,_,_,_,_]) rfl rfl rfl (fun _ => ?_))
 refine yG rfl rfl (pv_eql rfl rfl) (fun q0 => ?_) (fun q0 => ?_)
 rotate_left
 ·repeat (first | refine zF ?_ | refine zB ?_ | refine zE ?_ | refine zK rfl rfl rfl ?_ | refine L_skip rfl rfl ?_ | refine zM ?_)
  exact ⟨[_],X,_,⟨rfl,trivial⟩,⟨bool_F (fun h => q0 (by rw [h])),rfl⟩,yK.out⟩
 ·repeat (first | refine zK rfl rfl rfl ?_ | refine zZ rfl rfl rfl rfl rfl ?_ | refine L_ld rfl rfl rfl rfl rfl ?_)
  skip
  refine yG rfl rfl (pv_eql rfl rfl) (fun q1 => ?_) (fun q1 => ?_)
  rotate_left
  ·repeat (first | refine zF ?_ | refine zB ?_ | refine zE ?_ | refine zK rfl rfl rfl ?_ | refine L_skip rfl rfl ?_ | refine zM ?_)
   exact ⟨[_],X,_,⟨rfl,trivial⟩,⟨bool_F (fun h => q1 (by rw [h])),rfl⟩,yK.out⟩
  ·repeat (first | refine zK rfl rfl rfl ?_ | refine zZ rfl rfl rfl rfl rfl ?_ | refine L_ld rfl rfl rfl rfl rfl ?_)
   skip
   refine yG rfl rfl (pv_eql rfl rfl) (fun q2 => ?_) (fun q2 => ?_)
   rotate_left
   ·repeat (first | refine zF ?_ | refine zB ?_ | refine zE ?_ | refine zK rfl rfl rfl ?_ | refine L_skip rfl rfl ?_ | refine zM ?_)
    exact ⟨[_],X,_,⟨rfl,trivial⟩,⟨bool_F (fun h => q2 (by rw [h])),rfl⟩,yK.out⟩
   ·repeat (first | refine zK rfl rfl rfl ?_ | refine zZ rfl rfl rfl rfl rfl ?_ | refine L_ld rfl rfl rfl rfl rfl ?_)
    skip
    refine zY rfl rfl (zQ rfl rfl rfl) (sameBlks_spec w0 X _ _ x.blocks y.blocks rx1 ry1 hx.bl.1 hy.bl.1 hx.bl.2 hy.bl.2) ?_
    rintro _ _ ⟨rfl,rfl⟩
    by_cases c0 : x.blocks = y.blocks
    rotate_left
    ·rw [decide_eq_false c0]
     repeat (first | refine zF ?_ | refine zB ?_ | refine zE ?_ | refine zK rfl rfl rfl ?_ | refine L_skip rfl rfl ?_ | refine zM ?_)
     exact ⟨[_],X,_,⟨rfl,trivial⟩,⟨bool_F (fun h => c0 (by rw [h])),rfl⟩,yK.out⟩
    ·rw [decide_eq_true c0]
     repeat (first | refine zK rfl rfl rfl ?_ | refine zZ rfl rfl rfl rfl rfl ?_ | refine L_ld rfl rfl rfl rfl rfl ?_)
     skip
     refine zY rfl rfl (zQ rfl rfl rfl) (sameKpts_spec w0 X _ _ x.kept y.kept rx2 ry2 hx.kp.1 hy.kp.1 hx.kp.2 hy.kp.2) ?_
     rintro _ _ ⟨rfl,rfl⟩
     by_cases c1 : x.kept = y.kept
     rotate_left
     ·rw [decide_eq_false c1]
      repeat (first | refine zF ?_ | refine zB ?_ | refine zE ?_ | refine zK rfl rfl rfl ?_ | refine L_skip rfl rfl ?_ | refine zM ?_)
      exact ⟨[_],X,_,⟨rfl,trivial⟩,⟨bool_F (fun h => c1 (by rw [h])),rfl⟩,yK.out⟩
     ·rw [decide_eq_true c1]
      repeat (first | refine zK rfl rfl rfl ?_ | refine zZ rfl rfl rfl rfl rfl ?_ | refine L_ld rfl rfl rfl rfl rfl ?_)
      skip
      refine zY rfl rfl (zQ rfl rfl rfl) (sameL_spec w0 X _ _ x.locks y.locks rx3 ry3 hx.lk hy.lk) ?_
      rintro _ _ ⟨rfl,rfl⟩
      by_cases c2 : x.locks = y.locks
      rotate_left
      ·rw [decide_eq_false c2]
       repeat (first | refine zF ?_ | refine zB ?_ | refine zE ?_ | refine zK rfl rfl rfl ?_ | refine L_skip rfl rfl ?_ | refine zM ?_)
       exact ⟨[_],X,_,⟨rfl,trivial⟩,⟨bool_F (fun h => c2 (by rw [h])),rfl⟩,yK.out⟩
      ·rw [decide_eq_true c2]
       repeat (first | refine zF ?_ | refine zB ?_ | refine zE ?_ | refine zK rfl rfl rfl ?_ | refine zZ rfl rfl rfl rfl rfl ?_ | refine L_ld rfl rfl rfl rfl rfl ?_)
       skip
       refine zY rfl rfl (zQ rfl rfl rfl) (samePrps_spec w0 X _ _ x.preps y.preps rx4 ry4 hx.pr.1 hy.pr.1 hx.pr.2 hy.pr.2) ?_
       rintro _ _ ⟨rfl,rfl⟩
       by_cases c3 : x.preps = y.preps
       rotate_left
       ·rw [decide_eq_false c3]
        repeat (first | refine zE ?_ | refine zK rfl rfl rfl ?_ | refine L_skip rfl rfl ?_ | refine zM ?_)
        exact ⟨[_],X,_,⟨rfl,trivial⟩,⟨bool_F (fun h => c3 (by rw [h])),rfl⟩,yK.out⟩
       ·rw [decide_eq_true c3]
        repeat (first | refine zK rfl rfl rfl ?_ | refine zZ rfl rfl rfl rfl rfl ?_ | refine L_ld rfl rfl rfl rfl rfl ?_)
        skip
        refine zY rfl rfl (zQ rfl rfl rfl) (sameI_spec w0 X _ _ x.dead y.dead rx5 ry5 hx.dd hy.dd) ?_
        rintro _ _ ⟨rfl,rfl⟩
        by_cases c4 : x.dead = y.dead
        rotate_left
        ·rw [decide_eq_false c4]
         repeat (first | refine zE ?_ | refine zK rfl rfl rfl ?_ | refine L_skip rfl rfl ?_ | refine zM ?_)
         exact ⟨[_],X,_,⟨rfl,trivial⟩,⟨bool_F (fun h => c4 (by rw [h])),rfl⟩,yK.out⟩
        ·rw [decide_eq_true c4]
         repeat (first | refine zK rfl rfl rfl ?_ | refine zZ rfl rfl rfl rfl rfl ?_ | refine L_ld rfl rfl rfl rfl rfl ?_)
         skip
         refine zY rfl rfl (zQ rfl rfl rfl) (sameOuts_spec w0 X _ _ x.outs y.outs rx6 ry6 hx.ou.1 hy.ou.1 hx.ou.2 hy.ou.2) ?_
         rintro _ _ ⟨rfl,rfl⟩
         by_cases c5 : x.outs = y.outs
         rotate_left
         ·rw [decide_eq_false c5]
          repeat (first | refine zE ?_ | refine zK rfl rfl rfl ?_ | refine L_skip rfl rfl ?_ | refine zM ?_)
          exact ⟨[_],X,_,⟨rfl,trivial⟩,⟨bool_F (fun h => c5 (by rw [h])),rfl⟩,yK.out⟩
         ·rw [decide_eq_true c5]
          repeat (first | refine zK rfl rfl rfl ?_ | refine zZ rfl rfl rfl rfl rfl ?_ | refine L_ld rfl rfl rfl rfl rfl ?_)
          skip
          refine zY rfl rfl (zQ rfl rfl rfl) (sameSess_spec w0 X _ _ x.sess y.sess rx7 ry7 hx.se.1 hy.se.1 hx.se.2 hy.se.2) ?_
          rintro _ _ ⟨rfl,rfl⟩
          by_cases c6 : x.sess = y.sess
          rotate_left
          ·rw [decide_eq_false c6]
           repeat (first | refine zE ?_ | refine zK rfl rfl rfl ?_ | refine zM ?_)
           exact ⟨[_],X,_,⟨rfl,trivial⟩,⟨bool_F (fun h => c6 (by rw [h])),rfl⟩,yK.out⟩
          ·rw [decide_eq_true c6]
           repeat (first | refine zE ?_ | refine zK rfl rfl rfl ?_ | refine zM ?_)
           exact ⟨[_],X,_,⟨rfl,trivial⟩,⟨bool_T (by cases x; cases y; simp only at q0 q1 q2 c0 c1 c2 c3 c4 c5 c6; subst q0 q1 q2 c0 c1 c2 c3 c4 c5 c6; rfl),rfl⟩,yK.out⟩
end Sl
end Go.Proofs.YtpkealohodeifaaGreat
namespace Go.Proofs.YtpkealohodeifaaGreat
open Go Go.RowKit
namespace Sl
set_option maxRecDepth 4000
theorem find_sub {α : Type} {p q : α → Bool} (h : ∀ x,q x = true → p x = true) (l : List α) : (l.filter p).find? q = l.find? q := by
 rw [List.find?_filter]
 congr 1
 funext x
 cases hq : q x
 ·simp
 ·simp [h x hq]
theorem getB_eq {l m : List Blk} {no : Int} (h : l.find? (fun x => decide (x.no = no)) = m.find? (fun x => decide (x.no = no))) : getB l no = getB m no := by
 unfold getB; rw [h]
theorem getB_filter {l : List Blk} {p : Int → Bool} {b : Int} (hp : p b = true) : getB (l.filter fun x => p x.no) b = getB l b :=
 getB_eq (find_sub (fun x hx => by simp at hx; rw [hx]; exact hp) l)
theorem kept_mem {l : List Kpt} (h : OkK l) {x : Kpt} (hx : x ∈ l) : keptK l x.snap x.no = some x := by
 obtain ⟨hd,hp⟩ := h
 unfold keptK
 induction l with
 | nil => simp at hx
 | cons y l ih =>
  obtain ⟨h1,h2⟩ := List.pairwise_cons.1 hp
  rcases List.mem_cons.1 hx with rfl | hx
  ·simp
  ·have := h1 x hx
   rw [List.find?_cons_of_neg (by unfold ltK ltKey at this; simp; omega)]
   exact ih hx (fun z hz => hd z (by simp [hz])) h2
end Sl
end Go.Proofs.YtpkealohodeifaaGreat
namespace Go.Proofs.YtpkealohodeifaaGreat
open Go Go.RowKit
namespace Sl
set_option maxRecDepth 4000
abbrev frO (e lo hi : Int) : Opn := ⟨5,0,0,0,0,e,lo,hi,0,0,0,0,0,[],[],[],[]⟩
abbrev inO (e lo hi : Int) (d : List Bt) : Opn := ⟨6,0,0,0,0,e,lo,hi,0,0,0,0,0,[],[],[],d⟩
abbrev emS : Shd := ⟨0,0,0,[],[],[],[],[],[],[]⟩
theorem zf_zero (k : Int) (i : Nat) : zf k i 0 = 0 := by unfold zf; split <;> rfl
theorem fr_check {e lo hi : Int} (he : 0 ≤ e ∧ e ≤ 1099511627776) (h : 0 ≤ lo ∧ lo < hi ∧ hi ≤ 64) : checkF (frO e lo hi) = 0 := by
 unfold checkF
 rw [if_neg (by simp),if_neg,if_neg (by simp),if_neg (by simp),if_neg,if_neg,if_neg]
 ·simp [Rises]
 ·simp [WritesP]
 ·refine not_not_intro ⟨⟨?_,?_,?_,?_,?_⟩,?_,?_,?_⟩
  ·unfold Placed1; simp; omega
  ·unfold Placed2; simp
  ·unfold Placed3; simp
  ·unfold SpanP; simp; omega
  ·simp
  ·simp [InAll]
  ·simp [InAll]
  ·simp [InAll]
 ·refine not_not_intro ⟨?_,.inl rfl,.inl rfl⟩
  unfold BareN
  simp only [zf_zero,true_and,and_true]
  exact ⟨rfl,rfl,rfl⟩
theorem in_check {e lo hi : Int} {d : List Bt} (he : 0 ≤ e ∧ e ≤ 1099511627776) (h : 0 ≤ lo ∧ lo < hi ∧ hi ≤ 64) (hd : d.length ≤ 32768) : checkF (inO e lo hi d) = 0 := by
 unfold checkF
 rw [if_neg (by simp),if_neg,if_neg (by simp),if_neg (by simpa using hd),if_neg,if_neg,if_neg]
 ·simp [Rises]
 ·simp [WritesP]
 ·refine not_not_intro ⟨⟨?_,?_,?_,?_,?_⟩,?_,?_,?_⟩
  ·unfold Placed1; simp; omega
  ·unfold Placed2; simp
  ·unfold Placed3; simp
  ·unfold SpanP; simp; omega
  ·simp
  ·simp [InAll]
  ·simp [InAll]
  ·simp [InAll]
 ·refine not_not_intro ⟨?_,.inl rfl,.inr rfl⟩
  unfold BareN
  simp only [zf_zero,true_and,and_true]
  exact ⟨rfl,rfl,rfl⟩
theorem note_none (s : Shd) (o : Opn) (r : Res) (h : o.client = 0) : noteS s o r = s := by
 unfold noteS noteF; rw [if_pos h]
theorem apply_none (s : Shd) (o : Opn) (hc : o.client = 0) (h : checkF o = 0) (hk : doesK o.kind) : applyF s o = stepF s o := by
 have ha : askF s.sess o.client o.seq = (⟨0,[]⟩,0) := by unfold askF; rw [if_pos hc]
 unfold applyF
 rw [if_neg (not_not_intro h),if_neg (not_not_intro hk),ha,if_neg (by decide),if_neg (by decide),note_none _ _ _ hc]
theorem setB_end {m : List Blk} {x : Blk} (hm : ∀ y ∈ m,y.no < x.no) (hx : 0 ≤ x.no ∧ x.no < 64 ∧ x.data.length = 4 ∧ x.data ≠ zeros4) : setB m x.no x.data = m ++ [x] := by
 unfold setB
 rw [if_pos ⟨hx.1,hx.2.1,hx.2.2.1⟩]
 have h1 : m.filter (fun y => decide (y.no < x.no)) = m := List.filter_eq_self.2 (by simpa using hm)
 have h2 : m.filter (fun y => decide (x.no < y.no)) = [] := List.filter_eq_nil_iff.2 (fun y hy => by have := hm y hy; simp; omega)
 rw [h1,h2]
 unfold newB
 rw [if_neg hx.2.2.2,List.append_nil]
theorem joinB_app : ∀ (l m : List Blk),OkB (m ++ l) → joinB m l = m ++ l
 | [],m,_ => by simp [joinB]
 | x :: l,m,h => by
  show joinB (setB m x.no x.data) l = _
  have hx := h.1 x (by simp)
  rw [setB_end (fun y hy => (List.pairwise_append.1 h.2).2.2 y hy x (by simp)) hx,joinB_app l (m ++ [x]) (by rw [List.append_assoc]; exact h),List.append_assoc]
  rfl
theorem joinB_nil {l : List Blk} (h : OkB l) : joinB [] l = l := by rw [joinB_app l [] (by simpa using h)]; rfl
theorem filter_two {α : Type} (p : α → Bool) : ∀ l : List α,(l.filter fun x => !p x).length + (l.filter p).length = l.length
 | [] => rfl
 | x :: l => by
  have := filter_two p l
  cases h : p x
  ·simp [h]; omega
  ·simp [h]; omega
theorem part_round {lo hi : Int} {l : List Blk} {k : List Kpt} (h : PartOk lo hi l k) (hs : ∀ x ∈ k,I64 x.snap) (hk : k.length ≤ 1000000000) : partF (partE l k) lo hi = some (l,k) := by
 obtain ⟨h1,h2,h3,h4⟩ := h
 have hl := rise_len (fun x : Blk => x.no) l 0 64 (by omega) h1.2 (fun x hx => ⟨(h1.1 x hx).1,(h1.1 x hx).2.1⟩)
 have b1 := dList (one := oneBlk) (enc := encBlk) (least := 16) (odd := false) (l := l) (fun x hx' r => by
   have k1 : I64 x.no := by have := h1.1 x hx'; unfold I64; omega
   have k2 : SmallB x.data := by have := (h1.1 x hx').2.2.1; unfold SmallB; omega
   obtain ⟨q1,q2⟩ := dInt k1 (r := blob x.data ++ r)
   obtain ⟨q3,q4⟩ := dBlob (small_ok k2) (r := r)
   unfold oneBlk encBlk
   simp only [List.append_assoc,q1,q2,q3,q4]) (fun x _ => by unfold encBlk; simp only [List.length_append,be8_length,blob_length]; omega) (by omega) (by omega) (encL' encKpt k)
 have b2 := dList (one := oneKpt) (enc := encKpt) (least := 24) (odd := false) (l := k) (fun x hx' r => by
   have k1 := hs x hx'
   have k3 : I64 x.no := by have := (h4 x hx').1; unfold I64; omega
   have k2 : SmallB x.data := by have := h3.1 x hx'; unfold SmallB; omega
   obtain ⟨q1,q2⟩ := dInt k1 (r := be8 x.no ++ (blob x.data ++ r))
   obtain ⟨q5,q6⟩ := dInt k3 (r := blob x.data ++ r)
   obtain ⟨q3,q4⟩ := dBlob (small_ok k2) (r := r)
   unfold oneKpt encKpt
   simp only [List.append_assoc,q1,q2,q3,q4,q5,q6]) (fun x _ => by unfold encKpt; simp only [List.length_append,be8_length,blob_length]; omega) (by omega) (by omega) []
 rw [List.append_nil] at b2
 have e1 : partB (partE l k) = (l,(⟨encL' encKpt k,false⟩,false)) := b1
 have e2 : partK (partE l k) = (k,(⟨[],false⟩,false)) := by unfold partK; rw [e1]; exact b2
 unfold partF
 rw [e1,e2,if_pos ⟨rfl,h1,h2,h3,h4⟩]
theorem freeze_move {n : Nat} {s : Shd} (hg : Good n s) {lo hi : Int} (he : s.epoch ≤ 549755813888) (h1 : s.lo ≤ lo) (h2 : lo < hi) (h3 : hi ≤ s.hi) (h4 : lo = s.lo ∨ hi = s.hi) :
  ((applyF s (frO (s.epoch + 1) lo hi)).2.code = 11 ∨ ((applyF s (frO (s.epoch + 1) lo hi)).2.code = 0 ∧ (applyF s (frO (s.epoch + 1) lo hi)).1 = s)) ∨
  ((applyF s (frO (s.epoch + 1) lo hi)).2.code = 0 ∧ (applyF s (frO (s.epoch + 1) lo hi)).2.data = partData s lo hi ∧
   (applyF s (frO (s.epoch + 1) lo hi)).1.blocks = (s.blocks.filter fun x => !inS lo hi x.no) ∧ (applyF s (frO (s.epoch + 1) lo hi)).1.kept = (s.kept.filter fun x => !inK lo hi x)) := by
 have hrg := hg.rng
 have hep := hg.ep
 unfold Num at hep
 have es : applyF s (frO (s.epoch + 1) lo hi) = freezeF s (frO (s.epoch + 1) lo hi) := by
  rw [apply_none _ _ rfl (fr_check (by omega) (by omega)) (by unfold doesK; show 1 ≤ (5 : Int) ∧ (5 : Int) ≤ 7 ∧ (5 : Int) ≠ 4; decide)]
  rfl
 rw [es]
 unfold freezeF
 split
 ·exact .inl (.inr ⟨rfl,rfl⟩)
 ·rw [if_neg (by show ¬ (s.epoch + 1 ≤ s.epoch); omega),if_neg (by show ¬ (lo < s.lo ∨ s.hi < hi ∨ (lo ≠ s.lo ∧ hi ≠ s.hi)); omega)]
  split
  ·exact .inl (.inl rfl)
  ·exact .inr ⟨rfl,rfl,rfl,rfl⟩
theorem install_move {n : Nat} {s : Shd} (hg : Good n s) (hn : n ≤ 190) {e lo hi : Int} (he : 1 ≤ e ∧ e ≤ 1099511627776) (h1 : s.lo ≤ lo) (h2 : lo < hi) (h3 : hi ≤ s.hi) (hd : (partData s lo hi).length ≤ 16384) :
  applyF emS (inO e lo hi (partData s lo hi)) = (⟨lo,hi,e,s.blocks.filter fun x => inS lo hi x.no,sortK (s.kept.filter (inK lo hi)),[],[],[],[],[]⟩,⟨0,[]⟩) := by
 have hrg := hg.rng
 have hob : OkB (s.blocks.filter fun x => inS lo hi x.no) := ⟨fun x hx => hg.ok.blocks.1 x (List.mem_filter.1 hx).1,hg.ok.blocks.2.sublist List.filter_sublist⟩
 have hok : OkK (s.kept.filter (inK lo hi)) := ⟨fun x hx => hg.ok.kept.1 x (List.mem_filter.1 hx).1,hg.ok.kept.2.sublist List.filter_sublist⟩
 have hpo : PartOk lo hi (s.blocks.filter fun x => inS lo hi x.no) (s.kept.filter (inK lo hi)) :=
  ⟨hob,fun x hx => (List.mem_filter.1 hx).2,hok,fun x hx => ⟨by have := (hg.kIn x (List.mem_filter.1 hx).1).1; omega,(List.mem_filter.1 hx).2⟩⟩
 have hrd := part_round hpo (fun x hx => (hg.kIn x (List.mem_filter.1 hx).1).2) (by have := hg.kl; have := filter_len (inK lo hi) s.kept; omega)
 rw [apply_none _ _ rfl (in_check (by omega) (by omega) (by omega)) (by unfold doesK; show 1 ≤ (6 : Int) ∧ (6 : Int) ≤ 7 ∧ (6 : Int) ≠ 4; decide)]
 show installF emS (inO e lo hi (partData s lo hi)) = _
 unfold installF
 rw [if_neg (by show ¬ (e = 0); omega),if_neg (by show ¬ (e < 0); omega),if_neg (by show ¬ ((0 : Int) ≠ 0 ∧ _); simp)]
 show (match partF (partE (s.blocks.filter fun x => inS lo hi x.no) (s.kept.filter (inK lo hi))) lo hi with | none => (emS,(⟨4,[]⟩ : Res)) | some (l,k) => (comeS emS (inO e lo hi (partData s lo hi)) l k,⟨0,[]⟩)) = _
 rw [hrd]
 show (comeS emS (inO e lo hi (partData s lo hi)) _ _,(⟨0,[]⟩ : Res)) = _
 unfold comeS
 simp only [emS,List.nil_append,joinB_nil hob,if_pos,Int.min_self,Int.max_self]
theorem moved_in {n : Nat} {s : Shd} (hg : Good n s) (hn : n ≤ 190) {lo hi : Int} {k : Kpt} (hk : k ∈ s.kept) (hi' : inK lo hi k = true) : keptK (sortK (s.kept.filter (inK lo hi))) k.snap k.no = some k := by
 have hok : OkK (s.kept.filter (inK lo hi)) := ⟨fun x hx => hg.ok.kept.1 x (List.mem_filter.1 hx).1,hg.ok.kept.2.sublist List.filter_sublist⟩
 have h1 := sortK_strict (l := []) (m := s.kept.filter (inK lo hi)) ⟨by simp,by simp⟩ hok (fun x hx => by cases hx)
 rw [List.nil_append] at h1
 have hp := sortK_perm (s.kept.filter (inK lo hi))
 exact kept_mem ⟨fun x hx => hok.1 x (hp.mem_iff.1 hx),h1⟩ (hp.mem_iff.2 (List.mem_filter.2 ⟨hk,hi'⟩))
theorem moved_out {n : Nat} {s : Shd} (hg : Good n s) {lo hi : Int} {k : Kpt} (hk : k ∈ s.kept) (hi' : inK lo hi k = false) : keptK (s.kept.filter fun x => !inK lo hi x) k.snap k.no = some k :=
 kept_mem ⟨fun x hx => hg.ok.kept.1 x (List.mem_filter.1 hx).1,hg.ok.kept.2.sublist List.filter_sublist⟩ (List.mem_filter.2 ⟨hk,by rw [hi']; rfl⟩)
end Sl
end Go.Proofs.YtpkealohodeifaaGreat
namespace Go.Proofs.YtpkealohodeifaaGreat
open Go Go.RowKit
namespace Sl
set_option maxHeartbeats 16000000
set_option maxRecDepth 4000
set_option synthInstance.maxHeartbeats 400000
set_option synthInstance.maxSize 100000
attribute [local irreducible] Hold HoldL HoldW
theorem pick_spec (w0 : World) (k n : Int) (h1 : 1 ≤ n) (h2 : n ≤ 64) : Spec Tryz.prog w0 33 [.int .i64 k,.int .i64 n] 0 (fun r h' => (∃ m,r = .int .i64 m ∧ 0 ≤ m ∧ m < n) ∧ 0 = h') := by
 refine zN Tryz.func33 rfl Tryz.ntmps33 Tryz.results33 rfl fun fr => ?_
 repeat (first | refine zF ?_ | refine zB ?_ | refine zE ?_ | refine zK rfl rfl rfl ?_)
 refine L_no rfl rfl (pv_lss rfl rfl) (by omega) ?_
 repeat (first | refine zF ?_ | refine zB ?_ | refine zE ?_ | refine zK rfl rfl rfl ?_ | refine zP ?_ | refine zI rfl ?_)
 refine yH rfl rfl (pv_rem rfl rfl (by omega)) ?_
 have hm1 : k.tmod n < n := Int.tmod_lt_of_pos k (by omega)
 have hm2 : -n < k.tmod n := Int.lt_tmod_of_pos k (by omega)
 generalize k.tmod n = m at *
 repeat (first | refine zF ?_ | refine zB ?_ | refine zE ?_ | refine zK rfl rfl rfl ?_)
 refine yG rfl rfl (pv_lss rfl rfl) (fun n1 => ?_) (fun n1 => ?_)
 ·repeat (first | refine zF ?_ | refine zB ?_ | refine zE ?_ | refine zK rfl rfl rfl ?_ | refine zM ?_ | refine zJ rfl ?_ | refine L_add rfl rfl (by omega) (by omega) rfl rfl ?_)
  exact ⟨[_],0,_,⟨rfl,trivial⟩,⟨⟨_,rfl,by omega,by omega⟩,rfl⟩,yK.out⟩
 ·repeat (first | refine zF ?_ | refine zB ?_ | refine zE ?_ | refine zK rfl rfl rfl ?_ | refine zP ?_ | refine zM ?_ | refine zI rfl ?_)
  exact ⟨[_],0,_,⟨rfl,trivial⟩,⟨⟨_,rfl,by omega,by omega⟩,rfl⟩,yK.out⟩
theorem fr_rd (w0 : World) (X : Hp) (e lo hi : Int) : Rep.rd w0 X (frO e lo hi) (cellsO (frO e lo hi) nils nils nils nils) :=
 ⟨none,0,none,0,none,0,none,0,rfl,RdL.nil _ _ _,RdL.nil _ _ _,RdL.nil _ _ _,RdL.nil _ _ _⟩
theorem in_rd (w0 : World) (X : Hp) (e lo hi : Int) (d : List Bt) (a : Option Addr) (c : Nat) (h : RdL w0 X (.slice a d.length c) d) : Rep.rd w0 X (inO e lo hi d) (cellsO (inO e lo hi d) nils nils nils (.slice a d.length c)) :=
 ⟨none,0,none,0,none,0,a,c,rfl,RdL.nil _ _ _,RdL.nil _ _ _,RdL.nil _ _ _,h⟩
theorem shardMoved_spec (w0 : World) (lo hi ep : Int) (v : Value) (l : List Opn) (cut : Int) (up : Bool) (hv : RdL w0 0 v l) (hl : l.length ≤ 17592186044416) (hlo : ∀ o ∈ l,LenO o) (hni : ∀ o ∈ l,NumsIn o) :
  Spec Tryz.prog w0 7 [.int .i64 lo,.int .i64 hi,.int .i64 ep,v,.int .i64 cut,.bool up] 0 (fun r h' => r = .bool true ∧ 0 = h') := by
 obtain ⟨a,c,rfl⟩ := hv.shape
 refine zN Tryz.func7 rfl Tryz.ntmps7 Tryz.results7 rfl fun fr => ?_
 repeat (first | refine zF ?_ | refine zB ?_ | refine zE ?_ | refine zK rfl rfl rfl ?_)
 refine zY rfl rfl (zQ rfl rfl rfl) (first22_spec w0 lo hi ep) ?_
 rintro _ _ ⟨⟨q,rfl,hq⟩,rfl⟩
 repeat (first | refine zF ?_ | refine zB ?_ | refine zE ?_ | refine zK rfl rfl rfl ?_ | refine L_stA rfl (vs := [_,_,_,_,_,_,_,_,_,_]) rfl rfl rfl rfl (c' := [_,_,_,_,_,_,_,_,_,_]) rfl rfl ?_ | refine L_alloc (c := [_,_,_,_,_,_,_,_,_,_]) rfl rfl rfl (fun _ => ?_))
 rename_i b13
 refine zY rfl rfl (zQ rfl rfl rfl) (big_spec w0 0 _ l hv hl hlo) ?_
 rintro _ _ ⟨hbig,rfl⟩
 rcases hbig with rfl | ⟨rfl,hb1,hb2⟩
 ·repeat (first | refine zF ?_ | refine zB ?_ | refine zE ?_ | refine zK rfl rfl rfl ?_ | refine L_skip rfl rfl ?_ | refine zJ rfl ?_)
  refine zY rfl rfl (zQ rfl rfl rfl) (works22_spec w0) ?_
  rintro _ _ ⟨rfl,rfl⟩
  repeat (first | refine zE ?_ | refine zK rfl rfl rfl ?_ | refine zM ?_)
  exact ⟨[_],0,_,⟨rfl,trivial⟩,⟨rfl,rfl⟩,yK.out⟩
 cases q
 ·repeat (first | refine zF ?_ | refine zB ?_ | refine zE ?_ | refine zK rfl rfl rfl ?_ | refine L_skip rfl rfl ?_ | refine zJ rfl ?_)
  refine zY rfl rfl (zQ rfl rfl rfl) (works22_spec w0) ?_
  rintro _ _ ⟨rfl,rfl⟩
  repeat (first | refine zE ?_ | refine zK rfl rfl rfl ?_ | refine zM ?_)
  exact ⟨[_],0,_,⟨rfl,trivial⟩,⟨rfl,rfl⟩,yK.out⟩
 have hg0 := newS_good (hq rfl)
 have hr0 := newS_rd w0 0 lo hi ep
 generalize newS lo hi ep = s0 at *
 have hfp : FirstP lo hi ep := hq rfl
 repeat (refine zK rfl rfl rfl ?_)
 refine yG rfl rfl (pv_gtr rfl rfl) (fun n1 => ?_) (fun n1 => ?_)
 ·repeat (first | refine zF ?_ | refine zB ?_ | refine zE ?_ | refine zK rfl rfl rfl ?_ | refine zJ rfl ?_)
  refine zY rfl rfl (zQ rfl rfl rfl) (works22_spec w0) ?_
  rintro _ _ ⟨rfl,rfl⟩
  repeat (first | refine zE ?_ | refine zK rfl rfl rfl ?_ | refine zM ?_)
  exact ⟨[_],0,_,⟨rfl,trivial⟩,⟨rfl,rfl⟩,yK.out⟩
 have hplay := play22_spec w0 0 s0 _ (.slice a l.length c) l 0 hr0 hv hg0 (by omega) hni (fun o ho => (hb2 o ho).small)
 obtain ⟨gP,_⟩ := playF_good hg0 (l := l) (by omega) l.length (Nat.le_refl _)
 rw [List.take_length] at gP
 generalize (playF s0 l) = pp at *
 obtain ⟨sP,codes⟩ := pp
 have gP : Good (0 + l.length) sP := gP
 repeat (first | refine zF ?_ | refine zB ?_ | refine zE ?_ | refine zK rfl rfl rfl ?_ | refine zP ?_ | refine zI rfl ?_ | refine L_ldA rfl (vs := [_,_,_,_,_,_,_,_,_,_]) rfl rfl rfl rfl rfl ?_)
 refine zY rfl rfl (zQ rfl rfl rfl) hplay ?_
 rintro _ h' ⟨e1,vo,D,ho,rfl,hrd,hov,hh⟩
 rw [hzero_add] at hh hrd
 subst hh
 have hrd : RdShd w0 D sP e1 := hrd
 obtain ⟨avo,cvo,rfl⟩ := hov.shape
 obtain ⟨k1,qk1,k2,qk2,k3,qk3,k4,qk4,k5,qk5,k6,qk6,k7,qk7,rfl,rk1,rk2,_,_,_,_,_⟩ := id hrd
 have hrg := gP.rng
 have hep := gP.ep
 unfold Num at hep
 repeat (first | refine zF ?_ | refine zB ?_ | refine zE ?_ | refine zK rfl rfl rfl ?_ | refine zZ rfl rfl rfl rfl rfl ?_ | refine L_ld rfl rfl rfl rfl rfl ?_ | refine L_stA rfl (vs := [_,_,_,_,_,_,_,_,_,_]) rfl rfl rfl rfl (c' := [_,_,_,_,_,_,_,_,_,_]) rfl rfl ?_)
 refine yG rfl rfl (pv_gtr rfl rfl) (fun n2 => ?_) (fun n2 => ?_)
 ·repeat (first | refine zF ?_ | refine zB ?_ | refine zE ?_ | refine zK rfl rfl rfl ?_ | refine L_skip rfl rfl ?_ | refine zJ rfl ?_)
  refine zY rfl rfl (zQ rfl rfl rfl) (works22_spec w0) ?_
  rintro _ _ ⟨rfl,rfl⟩
  repeat (first | refine zE ?_ | refine zK rfl rfl rfl ?_ | refine zM ?_)
  exact ⟨[_],0,_,⟨rfl,trivial⟩,⟨rfl,rfl⟩,yK.out⟩
 repeat (first | refine zK rfl rfl rfl ?_ | refine zZ rfl rfl rfl rfl rfl ?_ | refine L_ld rfl rfl rfl rfl rfl ?_)
 refine yG rfl rfl (pv_geq rfl rfl) (fun n3 => ?_) (fun n3 => ?_)
 ·repeat (first | refine zF ?_ | refine zB ?_ | refine zE ?_ | refine zK rfl rfl rfl ?_ | refine zJ rfl ?_)
  refine zY rfl rfl (zQ rfl rfl rfl) (works22_spec w0) ?_
  rintro _ _ ⟨rfl,rfl⟩
  repeat (first | refine zE ?_ | refine zK rfl rfl rfl ?_ | refine zM ?_)
  exact ⟨[_],0,_,⟨rfl,trivial⟩,⟨rfl,rfl⟩,yK.out⟩
 repeat (first | refine zF ?_ | refine zB ?_ | refine zE ?_ | refine zK rfl rfl rfl ?_ | refine zZ rfl rfl rfl rfl rfl ?_ | refine L_ld rfl rfl rfl rfl rfl ?_ | refine zP ?_ | refine zI rfl ?_ | refine L_add rfl rfl (by omega) (by omega) rfl rfl ?_)
 refine yC [9] [0,1,2,3,4,5,6,7,8,9,10,11] (by kernel_rfl) rfl (by kernel_rfl) (by kernel_rfl) ?_
 repeat (first | refine yI rfl rfl rfl rfl rfl ?_ | refine yE rfl rfl rfl rfl (yA rfl rfl rfl) ?_ | refine W_load rfl rfl rfl rfl (yF rfl) (zG rfl (zS rfl)) ?_ | refine yE rfl rfl rfl rfl (pv_add rfl rfl (by omega) (by omega)) ?_)
 refine yE rfl rfl rfl rfl (pv_sub rfl rfl (by omega) (by omega)) ?_
 refine W_call rfl rfl rfl rfl (zQ rfl rfl rfl) (pick_spec w0 cut (sP.hi - sP.lo) (by omega) (by omega)) (Kept.all _) ?_
 rintro _ _ ⟨⟨m,rfl,hm1,hm2⟩,rfl⟩
 refine ⟨(by repeat (first | exact trivial | exact zG rfl (zS rfl) | exact zL rfl rfl rfl | exact zX rfl (by assumption) rfl | exact zH rfl (by assumption) rfl | exact zH rfl (by assumption) (by assumption) | refine ⟨?_,?_⟩)),?_⟩
 repeat (first | refine yJ ?_ | refine yI rfl rfl rfl rfl rfl ?_ | refine yE rfl rfl rfl rfl (pv_add rfl rfl (by omega) (by omega)) ?_)
 repeat (first | refine zF ?_ | refine zB ?_ | refine zE ?_ | refine zK rfl rfl rfl ?_ | refine zZ rfl rfl rfl rfl rfl ?_ | refine L_ld rfl rfl rfl rfl rfl ?_ | refine L_build (vs := [_,_]) (cells := [_,_]) rfl rfl rfl rfl ?_ | refine L_stA rfl (vs := [_,_]) rfl rfl rfl rfl (c' := [_,_]) rfl rfl ?_ | refine L_alloc (c := [_,_]) rfl rfl rfl (fun _ => ?_))
 rename_i b17
 refine hold_join (fun g' L' => ∃ (xl xh : Int) (R : Hp),Sub g' [(13,.pointer (some ⟨b13,0,none⟩)),(15,.int .i64 (sP.epoch + 1)),(17,.pointer (some ⟨b17,0,none⟩))] ∧ (sP.lo ≤ xl ∧ xl < xh ∧ xh ≤ sP.hi ∧ (xl = sP.lo ∨ xh = sP.hi)) ∧
  L' = D + pt b13 (.cells (cellsS sP (.slice k1 sP.blocks.length qk1) (.slice k2 sP.kept.length qk2) (.slice k3 sP.locks.length qk3) (.slice k4 sP.preps.length qk4) (.slice k5 sP.dead.length qk5) (.slice k6 sP.outs.length qk6) (.slice k7 sP.sess.length qk7)).toArray 33 (0,0)) + pt b17 (.cells [.int .i64 xl,.int .i64 xh].toArray 70 (0,0)) + fr + R) ?_ ?_
 ·cases up
  ·repeat (first | refine zP ?_ | refine zI rfl ?_)
   exact ⟨sP.lo,sP.lo + 1 + m,_,(by repeat (first | exact zT _ | refine zO rfl ?_)),by omega,yK.out⟩
  ·repeat (first | refine zB ?_ | refine zE ?_ | refine zK rfl rfl rfl ?_ | refine zZ rfl rfl rfl rfl rfl ?_ | refine L_ld rfl rfl rfl rfl rfl ?_ | refine zJ rfl ?_ | refine L_sub rfl rfl (by omega) (by omega) rfl rfl ?_ | refine L_build (vs := [_,_]) (cells := [_,_]) rfl rfl rfl rfl ?_ | refine L_stA rfl (vs := [_,_]) rfl rfl rfl rfl (c' := [_,_]) rfl rfl ?_)
   exact ⟨sP.lo + 1 + m - 1,sP.hi,_,(by repeat (first | exact zT _ | refine zO rfl ?_)),by omega,yK.out⟩
 rintro g' _ ⟨xl,xh,R,hsub,⟨hx1,hx2,hx3,hx4⟩,rfl⟩
 refine hold_env hsub ?_
 clear hsub g'
 have happ := apply22_spec w0 D sP _ (frO (sP.epoch + 1) xl xh) _ (0 + l.length) hrd (fr_rd w0 D (sP.epoch + 1) xl xh) gP (by omega) (by unfold NumsIn I64; simp only; omega) (by unfold SmallO; simp)
 have hmv := freeze_move gP (by omega) hx1 hx2 hx3 hx4
 obtain ⟨gA,hrA⟩ := applyF_good gP (by omega) (frO (sP.epoch + 1) xl xh)
 generalize applyF sP (frO (sP.epoch + 1) xl xh) = ap at *
 obtain ⟨sa,ra⟩ := ap
 have gA : Good (0 + l.length + 1) sa := gA
 simp only at hmv
 have hzP := gP.sizeS (by omega)
 have hzA := gA.sizeS (by omega)
 have hobA := gA.ok.blocks
 have hokA := gA.ok.kept
 have hkdP := gP.ok.kept.1
 have hobP := gP.ok.blocks
 repeat (first | refine zF ?_ | refine zB ?_ | refine zK rfl rfl rfl ?_ | refine zZ rfl rfl rfl rfl rfl ?_ | refine L_ld rfl rfl rfl rfl rfl ?_ | refine L_ldA rfl (vs := [_,_,_,_,_,_,_,_,_,_]) rfl rfl rfl rfl rfl ?_ | refine L_build (vs := [_,_,_,_]) (cells := [_,_,_,_,_,_,_,_,_,_,_,_,_,_,_,_,_]) rfl rfl rfl rfl ?_)
 refine zY rfl rfl (zQ rfl rfl rfl) happ ?_
 rintro _ _ ⟨ea,er,D2,h2,hr2,rfl,how,hor,rfl⟩
 have hrdA : RdShd w0 (D + (D2 + h2 + hr2)) sa ea := how.rd.mono (show _ = D2 + h2 + (D + hr2) by ac_rfl)
 have hrdP : RdShd w0 (D + (D2 + h2 + hr2)) sP _ := hrd.mono rfl
 obtain ⟨m1,qm1,m2,qm2,m3,qm3,m4,qm4,m5,qm5,m6,qm6,m7,qm7,rfl,rm1,rm2,_,_,_,_,_⟩ := id hrdA
 obtain ⟨a8,c8,e28,o8⟩ := id hor
 obtain rfl : er = [.int .i64 ra.code,.slice a8 ra.data.length c8] := by simpa using e28
 have hr8 : RdL w0 (D + (D2 + h2 + hr2)) (.slice a8 ra.data.length c8) ra.data := o8.rdh.mono (show _ = hr2 + (D + (D2 + h2)) by ac_rfl)
 generalize hDX : D + (D2 + h2 + hr2) = DX at *
 have hsame := sameShd1_spec w0 DX sa sP _ _ hrdA hrdP hzA hzP
 rcases hmv with (h11 | ⟨hc0,hsm⟩) | ⟨hc0,hdat,hbl,hkp⟩
 ·repeat (first | refine zF ?_ | refine zB ?_ | refine zE ?_ | refine zK rfl rfl rfl ?_ | refine zZ rfl rfl rfl rfl rfl ?_ | refine L_ld rfl rfl rfl rfl rfl ?_ | refine L_stA rfl (vs := [_,_]) rfl rfl rfl rfl (c' := [_,_]) rfl rfl ?_ | refine L_stA rfl (vs := [_,_,_,_,_,_,_,_,_,_]) rfl rfl rfl rfl (c' := [_,_,_,_,_,_,_,_,_,_]) rfl rfl ?_ | refine L_alloc (c := [_,_]) rfl rfl rfl (fun _ => ?_) | refine L_alloc (c := [_,_,_,_,_,_,_,_,_,_]) rfl rfl rfl (fun _ => ?_))
  refine L_yes rfl rfl (pv_eql rfl rfl) h11 ?_
  repeat (first | refine zF ?_ | refine zB ?_ | refine zE ?_ | refine zK rfl rfl rfl ?_ | refine L_skip rfl rfl ?_ | refine zJ rfl ?_)
  refine zY rfl rfl (zQ rfl rfl rfl) (works22_spec w0) ?_
  rintro _ _ ⟨rfl,rfl⟩
  repeat (first | refine zE ?_ | refine zK rfl rfl rfl ?_ | refine zM ?_)
  exact ⟨[_],0,_,⟨rfl,trivial⟩,⟨rfl,rfl⟩,yK.out⟩
 ·rw [decide_eq_true hsm] at hsame
  repeat (first | refine zF ?_ | refine zB ?_ | refine zE ?_ | refine zK rfl rfl rfl ?_ | refine zZ rfl rfl rfl rfl rfl ?_ | refine L_ld rfl rfl rfl rfl rfl ?_ | refine L_stA rfl (vs := [_,_]) rfl rfl rfl rfl (c' := [_,_]) rfl rfl ?_ | refine L_stA rfl (vs := [_,_,_,_,_,_,_,_,_,_]) rfl rfl rfl rfl (c' := [_,_,_,_,_,_,_,_,_,_]) rfl rfl ?_ | refine L_alloc (c := [_,_]) rfl rfl rfl (fun _ => ?_) | refine L_alloc (c := [_,_,_,_,_,_,_,_,_,_]) rfl rfl rfl (fun _ => ?_))
  refine L_no rfl rfl (pv_eql rfl rfl) (by omega) ?_
  repeat (first | refine zK rfl rfl rfl ?_ | refine zZ rfl rfl rfl rfl rfl ?_ | refine L_ld rfl rfl rfl rfl rfl ?_)
  refine L_yes rfl rfl (pv_eql rfl rfl) hc0 ?_
  repeat (first | refine zK rfl rfl rfl ?_ | refine L_ldA rfl (vs := [_,_,_,_,_,_,_,_,_,_]) rfl rfl rfl rfl rfl ?_)
  refine zY rfl rfl (zQ rfl rfl rfl) hsame ?_
  rintro _ _ ⟨rfl,rfl⟩
  repeat (first | refine zF ?_ | refine zB ?_ | refine zE ?_ | refine zK rfl rfl rfl ?_ | refine zJ rfl ?_)
  refine zY rfl rfl (zQ rfl rfl rfl) (works22_spec w0) ?_
  rintro _ _ ⟨rfl,rfl⟩
  repeat (first | refine zE ?_ | refine zK rfl rfl rfl ?_ | refine zM ?_)
  exact ⟨[_],0,_,⟨rfl,trivial⟩,⟨rfl,rfl⟩,yK.out⟩
 by_cases hsm : sa = sP
 ·rw [decide_eq_true hsm] at hsame
  repeat (first | refine zF ?_ | refine zB ?_ | refine zE ?_ | refine zK rfl rfl rfl ?_ | refine zZ rfl rfl rfl rfl rfl ?_ | refine L_ld rfl rfl rfl rfl rfl ?_ | refine L_stA rfl (vs := [_,_]) rfl rfl rfl rfl (c' := [_,_]) rfl rfl ?_ | refine L_stA rfl (vs := [_,_,_,_,_,_,_,_,_,_]) rfl rfl rfl rfl (c' := [_,_,_,_,_,_,_,_,_,_]) rfl rfl ?_ | refine L_alloc (c := [_,_]) rfl rfl rfl (fun _ => ?_) | refine L_alloc (c := [_,_,_,_,_,_,_,_,_,_]) rfl rfl rfl (fun _ => ?_))
  refine L_no rfl rfl (pv_eql rfl rfl) (by omega) ?_
  repeat (first | refine zK rfl rfl rfl ?_ | refine zZ rfl rfl rfl rfl rfl ?_ | refine L_ld rfl rfl rfl rfl rfl ?_)
  refine L_yes rfl rfl (pv_eql rfl rfl) hc0 ?_
  repeat (first | refine zK rfl rfl rfl ?_ | refine L_ldA rfl (vs := [_,_,_,_,_,_,_,_,_,_]) rfl rfl rfl rfl rfl ?_)
  refine zY rfl rfl (zQ rfl rfl rfl) hsame ?_
  rintro _ _ ⟨rfl,rfl⟩
  repeat (first | refine zF ?_ | refine zB ?_ | refine zE ?_ | refine zK rfl rfl rfl ?_ | refine zJ rfl ?_)
  refine zY rfl rfl (zQ rfl rfl rfl) (works22_spec w0) ?_
  rintro _ _ ⟨rfl,rfl⟩
  repeat (first | refine zE ?_ | refine zK rfl rfl rfl ?_ | refine zM ?_)
  exact ⟨[_],0,_,⟨rfl,trivial⟩,⟨rfl,rfl⟩,yK.out⟩
 rw [decide_eq_false hsm] at hsame
 repeat (first | refine zF ?_ | refine zB ?_ | refine zE ?_ | refine zK rfl rfl rfl ?_ | refine zZ rfl rfl rfl rfl rfl ?_ | refine L_ld rfl rfl rfl rfl rfl ?_ | refine L_stA rfl (vs := [_,_]) rfl rfl rfl rfl (c' := [_,_]) rfl rfl ?_ | refine L_stA rfl (vs := [_,_,_,_,_,_,_,_,_,_]) rfl rfl rfl rfl (c' := [_,_,_,_,_,_,_,_,_,_]) rfl rfl ?_ | refine L_alloc (c := [_,_]) rfl rfl rfl (fun _ => ?_) | refine L_alloc (c := [_,_,_,_,_,_,_,_,_,_]) rfl rfl rfl (fun _ => ?_))
 rename_i b18 b19
 refine L_no rfl rfl (pv_eql rfl rfl) (by omega) ?_
 repeat (first | refine zK rfl rfl rfl ?_ | refine zZ rfl rfl rfl rfl rfl ?_ | refine L_ld rfl rfl rfl rfl rfl ?_)
 refine L_yes rfl rfl (pv_eql rfl rfl) hc0 ?_
 repeat (first | refine zK rfl rfl rfl ?_ | refine L_ldA rfl (vs := [_,_,_,_,_,_,_,_,_,_]) rfl rfl rfl rfl rfl ?_)
 refine zY rfl rfl (zQ rfl rfl rfl) hsame ?_
 rintro _ _ ⟨rfl,rfl⟩
 repeat (first | refine zF ?_ | refine zB ?_ | refine zE ?_ | refine zK rfl rfl rfl ?_ | refine zZ rfl rfl rfl rfl rfl ?_ | refine L_ld rfl rfl rfl rfl rfl ?_ | refine zP ?_ | refine zI rfl ?_)
 refine L_no rfl rfl (pv_neq rfl rfl) (by omega) ?_
 repeat (first | refine zF ?_ | refine zB ?_ | refine zE ?_ | refine zZ rfl rfl rfl rfl rfl ?_ | refine L_ld rfl rfl rfl rfl rfl ?_ | refine L_len rfl rfl rfl ?_ | refine zP ?_ | refine zI rfl ?_)
 refine yG rfl rfl (pv_gtr rfl rfl) (fun n4 => ?_) (fun n4 => ?_)
 ·repeat (first | refine zF ?_ | refine zB ?_ | refine zE ?_ | refine zJ rfl ?_)
  refine zY rfl rfl (zQ rfl rfl rfl) (works22_spec w0) ?_
  rintro _ _ ⟨rfl,rfl⟩
  repeat (first | refine zE ?_ | refine zK rfl rfl rfl ?_ | refine zM ?_)
  exact ⟨[_],0,_,⟨rfl,trivial⟩,⟨rfl,rfl⟩,yK.out⟩
 have hin := install_move gP (by omega) (e := sP.epoch + 1) (by omega) hx1 hx2 hx3 (by rw [← hdat]; omega)
 rw [← hdat] at hin
 have gE : Good 0 emS := newS_good (lo := 0) (hi := 0) (ep := 0) (by unfold FirstP; omega)
 obtain ⟨gB,_⟩ := applyF_good gE (by omega) (inO (sP.epoch + 1) xl xh ra.data)
 have happ2 := apply22_spec w0 DX emS _ (inO (sP.epoch + 1) xl xh ra.data) _ 0 (newS_rd w0 DX 0 0 0) (in_rd w0 DX (sP.epoch + 1) xl xh ra.data a8 c8 hr8) gE (by omega) (by unfold NumsIn I64; simp only; omega) (by unfold SmallO; simp; omega)
 have hbf : ∀ no,inS xl xh no = true → getB (applyF emS (inO (sP.epoch + 1) xl xh ra.data)).1.blocks no = getB sP.blocks no := fun no h => by
  rw [hin]; exact getB_filter (p := inS xl xh) h
 have hkf : ∀ kp ∈ sP.kept,inK xl xh kp = true → keptK (applyF emS (inO (sP.epoch + 1) xl xh ra.data)).1.kept kp.snap kp.no = some kp := fun kp h1 h2 => by
  rw [hin]; exact moved_in gP (by omega) h1 h2
 have hfacts : (applyF emS (inO (sP.epoch + 1) xl xh ra.data)).2.code = 0 ∧ (applyF emS (inO (sP.epoch + 1) xl xh ra.data)).1.lo = xl ∧ (applyF emS (inO (sP.epoch + 1) xl xh ra.data)).1.hi = xh ∧
   sa.kept.length + (applyF emS (inO (sP.epoch + 1) xl xh ra.data)).1.kept.length = sP.kept.length ∧ sa.blocks.length + (applyF emS (inO (sP.epoch + 1) xl xh ra.data)).1.blocks.length = sP.blocks.length := by
  rw [hin,hbl,hkp]
  refine ⟨rfl,rfl,rfl,?_,filter_two (fun x : Blk => inS xl xh x.no) sP.blocks⟩
  show _ + (sortK _).length = _
  rw [(sortK_perm _).length_eq]
  exact filter_two (inK xl xh) sP.kept
 clear hin
 generalize applyF emS (inO (sP.epoch + 1) xl xh ra.data) = ap2 at *
 obtain ⟨sb,rb⟩ := ap2
 have gB : Good (0 + 1) sb := gB
 simp only at hbf hkf hfacts
 obtain ⟨hf1,hf2,hf3,hf4,hf5⟩ := hfacts
 have hzB := gB.sizeS (by omega)
 have hobB := gB.ok.blocks
 have hokB := gB.ok.kept
 repeat (first | refine zF ?_ | refine zB ?_ | refine zE ?_ | refine zK rfl rfl rfl ?_ | refine zZ rfl rfl rfl rfl rfl ?_ | refine L_ld rfl rfl rfl rfl rfl ?_ | refine zP ?_ | refine zI rfl ?_ | refine L_build (vs := [_]) (cells := [_,_,_,_,_,_,_,_,_,_]) rfl rfl rfl rfl ?_ | refine L_build (vs := [_,_,_,_,_]) (cells := [_,_,_,_,_,_,_,_,_,_,_,_,_,_,_,_,_]) rfl rfl rfl rfl ?_)
 refine zY rfl rfl (zQ rfl rfl rfl) happ2 ?_
 rintro _ _ ⟨eb,er2,D6,h6,hr6,rfl,how6,hor6,rfl⟩
 have hrdB : RdShd w0 (DX + (D6 + h6 + hr6)) sb eb := how6.rd.mono (show _ = D6 + h6 + (DX + hr6) by ac_rfl)
 obtain ⟨u1,qu1,u2,qu2,u3,qu3,u4,qu4,u5,qu5,u6,qu6,u7,qu7,rfl,ru1,ru2,_,_,_,_,_⟩ := id hrdB
 obtain ⟨a9,c9,e29,_⟩ := id hor6
 obtain rfl : er2 = [.int .i64 rb.code,.slice a9 rb.data.length c9] := by simpa using e29
 have rm1Y := rm1.mono (rfl : DX + (D6 + h6 + hr6) = _)
 have rm2Y := rm2.mono (rfl : DX + (D6 + h6 + hr6) = _)
 have rk1Y := (rk1.mono hDX.symm).mono (rfl : DX + (D6 + h6 + hr6) = _)
 have rk2Y := (rk2.mono hDX.symm).mono (rfl : DX + (D6 + h6 + hr6) = _)
 generalize hDY : DX + (D6 + h6 + hr6) = DY at *
 repeat (first | refine zF ?_ | refine zB ?_ | refine zE ?_ | refine zK rfl rfl rfl ?_ | refine zZ rfl rfl rfl rfl rfl ?_ | refine L_ld rfl rfl rfl rfl rfl ?_ | refine L_stA rfl (vs := [_,_]) rfl rfl rfl rfl (c' := [_,_]) rfl rfl ?_ | refine L_stA rfl (vs := [_,_,_,_,_,_,_,_,_,_]) rfl rfl rfl rfl (c' := [_,_,_,_,_,_,_,_,_,_]) rfl rfl ?_ | refine L_alloc (c := [_,_]) rfl rfl rfl (fun _ => ?_) | refine L_alloc (c := [_,_,_,_,_,_,_,_,_,_]) rfl rfl rfl (fun _ => ?_))
 rename_i b20 b21
 refine L_no rfl rfl (pv_neq rfl rfl) (by omega) ?_
 repeat (first | refine zK rfl rfl rfl ?_ | refine zZ rfl rfl rfl rfl rfl ?_ | refine L_ld rfl rfl rfl rfl rfl ?_)
 refine L_no rfl rfl (pv_neq rfl rfl) (by omega) ?_
 repeat (first | refine zK rfl rfl rfl ?_ | refine zZ rfl rfl rfl rfl rfl ?_ | refine L_ld rfl rfl rfl rfl rfl ?_)
 refine L_no rfl rfl (pv_neq rfl rfl) (by omega) ?_
 repeat (first | refine zF ?_ | refine zR ?_ | refine zB ?_ | refine zE ?_ | refine zK rfl rfl rfl ?_ | refine zP ?_ | refine zI rfl ?_)
 refine hold_count 64 (fun k g L => ∃ (R : Hp),g = [(13,.pointer (some ⟨b13,0,none⟩)),(17,.pointer (some ⟨b17,0,none⟩)),(18,.pointer (some ⟨b18,0,none⟩)),(20,.pointer (some ⟨b20,0,none⟩)),(22,.int .i64 k)] ∧
  L = DY + pt b13 (.cells (cellsS sP (.slice k1 sP.blocks.length qk1) (.slice k2 sP.kept.length qk2) (.slice k3 sP.locks.length qk3) (.slice k4 sP.preps.length qk4) (.slice k5 sP.dead.length qk5) (.slice k6 sP.outs.length qk6) (.slice k7 sP.sess.length qk7)).toArray 33 (0,0)) + pt b17 (.cells [.int .i64 xl,.int .i64 xh].toArray 70 (0,0)) + pt b18 (.cells (cellsS sa (.slice m1 sa.blocks.length qm1) (.slice m2 sa.kept.length qm2) (.slice m3 sa.locks.length qm3) (.slice m4 sa.preps.length qm4) (.slice m5 sa.dead.length qm5) (.slice m6 sa.outs.length qm6) (.slice m7 sa.sess.length qm7)).toArray 33 (0,0)) + pt b20 (.cells (cellsS sb (.slice u1 sb.blocks.length qu1) (.slice u2 sb.kept.length qu2) (.slice u3 sb.locks.length qu3) (.slice u4 sb.preps.length qu4) (.slice u5 sb.dead.length qu5) (.slice u6 sb.outs.length qu6) (.slice u7 sb.sess.length qu7)).toArray 33 (0,0)) + fr + R) _ ⟨_,rfl,yK.out⟩ (by repeat (first | exact zT _ | refine zO rfl ?_)) ?_
 rintro k g L hk ⟨R,rfl,rfl⟩
 have hbin := hbf
 have hbout : ∀ no,inS xl xh no = false → getB sa.blocks no = getB sP.blocks no := fun no h => by rw [hbl]; exact getB_filter (p := fun n => !inS xl xh n) (by rw [h]; rfl)
 have hl1 := getB_len hobP (k : Int)
 repeat (first | refine zF ?_ | refine zB ?_ | refine zK rfl rfl rfl ?_)
 refine yG rfl rfl (pv_lss rfl rfl) (fun n5 => ?_) (fun n5 => ?_)
 ·have hx : k < 64 := by omega
  repeat (first | refine zF ?_ | refine zR ?_ | refine zB ?_ | refine zE ?_ | refine zK rfl rfl rfl ?_ | refine zZ rfl rfl rfl rfl rfl ?_ | refine L_ld rfl rfl rfl rfl rfl ?_ | refine zP ?_ | refine zJ rfl ?_)
  refine yG rfl rfl (pv_geq rfl rfl) (fun n6 => ?_) (fun n6 => ?_)
  ·repeat (first | refine zK rfl rfl rfl ?_ | refine zZ rfl rfl rfl rfl rfl ?_ | refine L_ld rfl rfl rfl rfl rfl ?_)
   refine yG rfl rfl (pv_lss rfl rfl) (fun n7 => ?_) (fun n7 => ?_)
   ·repeat (first | refine zF ?_ | refine zB ?_ | refine zE ?_ | refine zK rfl rfl rfl ?_ | refine zZ rfl rfl rfl rfl rfl ?_ | refine L_ld rfl rfl rfl rfl rfl ?_)
    refine zY rfl rfl (zQ rfl rfl rfl) (get19_spec w0 DY (.slice k1 sP.blocks.length qk1) sP.blocks (k : Int) rk1Y hobP) ?_
    rintro vg _ ⟨hgh,hog,rfl⟩
    repeat (first | refine zF ?_ | refine zB ?_ | refine zE ?_ | refine zK rfl rfl rfl ?_ | refine zZ rfl rfl rfl rfl rfl ?_ | refine L_ld rfl rfl rfl rfl rfl ?_)
    refine zY rfl rfl (zQ rfl rfl rfl) (get19_spec w0 (DY + hgh) (.slice u1 sb.blocks.length qu1) sb.blocks (k : Int) (ru1.mono rfl) hobB) ?_
    rintro vg2 _ ⟨hgh2,hog2,rfl⟩
    have hl2 := getB_len hobB (k : Int)
    have hsb := sameB_spec w0 (DY + hgh + hgh2) vg2 vg (getB sb.blocks (k : Int)) (getB sP.blocks (k : Int)) (hog2.rdh.mono (hadd_comm _ _)) (hog.rdh.mono (show DY + hgh + hgh2 = hgh + (DY + hgh2) by ac_rfl)) (by omega) (by omega)
    rw [decide_eq_true (hbin _ (by unfold inS; exact decide_eq_true (by omega)))] at hsb
    obtain ⟨ag2,cg2,rfl⟩ := hog2.shape
    obtain ⟨ag1,cg1,rfl⟩ := hog.shape
    repeat (refine zK rfl rfl rfl ?_)
    refine zY rfl rfl (zQ rfl rfl rfl) hsb ?_
    rintro _ _ ⟨rfl,rfl⟩
    repeat (first | refine zB ?_ | refine zE ?_ | refine zK rfl rfl rfl ?_ | refine L_skip rfl rfl ?_ | refine zP ?_ | refine zI rfl ?_ | refine L_add rfl rfl (by omega) (by omega) rfl rfl ?_)
    exact ⟨hx,_,(by repeat (first | exact zT _ | refine zO rfl ?_)),_,rfl,yK.out⟩
   ·repeat (first | refine zF ?_ | refine zB ?_ | refine zE ?_ | refine zK rfl rfl rfl ?_ | refine zZ rfl rfl rfl rfl rfl ?_ | refine L_ld rfl rfl rfl rfl rfl ?_)
    refine zY rfl rfl (zQ rfl rfl rfl) (get19_spec w0 DY (.slice k1 sP.blocks.length qk1) sP.blocks (k : Int) rk1Y hobP) ?_
    rintro vg _ ⟨hgh,hog,rfl⟩
    repeat (first | refine zF ?_ | refine zB ?_ | refine zE ?_ | refine zK rfl rfl rfl ?_ | refine zZ rfl rfl rfl rfl rfl ?_ | refine L_ld rfl rfl rfl rfl rfl ?_ | refine L_skip rfl rfl ?_)
    refine zY rfl rfl (zQ rfl rfl rfl) (get19_spec w0 (DY + hgh) (.slice m1 sa.blocks.length qm1) sa.blocks (k : Int) (rm1Y.mono rfl) hobA) ?_
    rintro vg2 _ ⟨hgh2,hog2,rfl⟩
    have hl2 := getB_len hobA (k : Int)
    have hsb := sameB_spec w0 (DY + hgh + hgh2) vg2 vg (getB sa.blocks (k : Int)) (getB sP.blocks (k : Int)) (hog2.rdh.mono (hadd_comm _ _)) (hog.rdh.mono (show DY + hgh + hgh2 = hgh + (DY + hgh2) by ac_rfl)) (by omega) (by omega)
    rw [decide_eq_true (hbout _ (by unfold inS; exact decide_eq_false (by omega)))] at hsb
    obtain ⟨ag2,cg2,rfl⟩ := hog2.shape
    obtain ⟨ag1,cg1,rfl⟩ := hog.shape
    repeat (refine zK rfl rfl rfl ?_)
    refine zY rfl rfl (zQ rfl rfl rfl) hsb ?_
    rintro _ _ ⟨rfl,rfl⟩
    repeat (first | refine zB ?_ | refine zE ?_ | refine zK rfl rfl rfl ?_ | refine zP ?_ | refine zI rfl ?_ | refine L_add rfl rfl (by omega) (by omega) rfl rfl ?_)
    exact ⟨hx,_,(by repeat (first | exact zT _ | refine zO rfl ?_)),_,rfl,yK.out⟩
  ·repeat (first | refine zF ?_ | refine zB ?_ | refine zE ?_ | refine zK rfl rfl rfl ?_ | refine zZ rfl rfl rfl rfl rfl ?_ | refine L_ld rfl rfl rfl rfl rfl ?_ | refine L_skip rfl rfl ?_)
   refine zY rfl rfl (zQ rfl rfl rfl) (get19_spec w0 DY (.slice k1 sP.blocks.length qk1) sP.blocks (k : Int) rk1Y hobP) ?_
   rintro vg _ ⟨hgh,hog,rfl⟩
   repeat (first | refine zF ?_ | refine zB ?_ | refine zE ?_ | refine zK rfl rfl rfl ?_ | refine zZ rfl rfl rfl rfl rfl ?_ | refine L_ld rfl rfl rfl rfl rfl ?_ | refine L_skip rfl rfl ?_)
   refine zY rfl rfl (zQ rfl rfl rfl) (get19_spec w0 (DY + hgh) (.slice m1 sa.blocks.length qm1) sa.blocks (k : Int) (rm1Y.mono rfl) hobA) ?_
   rintro vg2 _ ⟨hgh2,hog2,rfl⟩
   have hl2 := getB_len hobA (k : Int)
   have hsb := sameB_spec w0 (DY + hgh + hgh2) vg2 vg (getB sa.blocks (k : Int)) (getB sP.blocks (k : Int)) (hog2.rdh.mono (hadd_comm _ _)) (hog.rdh.mono (show DY + hgh + hgh2 = hgh + (DY + hgh2) by ac_rfl)) (by omega) (by omega)
   rw [decide_eq_true (hbout _ (by unfold inS; exact decide_eq_false (by omega)))] at hsb
   obtain ⟨ag2,cg2,rfl⟩ := hog2.shape
   obtain ⟨ag1,cg1,rfl⟩ := hog.shape
   repeat (refine zK rfl rfl rfl ?_)
   refine zY rfl rfl (zQ rfl rfl rfl) hsb ?_
   rintro _ _ ⟨rfl,rfl⟩
   repeat (first | refine zB ?_ | refine zE ?_ | refine zK rfl rfl rfl ?_ | refine zP ?_ | refine zI rfl ?_ | refine L_add rfl rfl (by omega) (by omega) rfl rfl ?_)
   exact ⟨hx,_,(by repeat (first | exact zT _ | refine zO rfl ?_)),_,rfl,yK.out⟩
 have hzk := hzP.kp.1
 repeat (first | refine zF ?_ | refine zR ?_ | refine yD ?_ | refine zB ?_ | refine zE ?_ | refine zK rfl rfl rfl ?_ | refine zI rfl ?_)
 refine hold_count sP.kept.length (fun k g L => ∃ (R : Hp),g = [(13,.pointer (some ⟨b13,0,none⟩)),(17,.pointer (some ⟨b17,0,none⟩)),(18,.pointer (some ⟨b18,0,none⟩)),(20,.pointer (some ⟨b20,0,none⟩)),(25,.int .i64 k)] ∧
  L = DY + pt b13 (.cells (cellsS sP (.slice k1 sP.blocks.length qk1) (.slice k2 sP.kept.length qk2) (.slice k3 sP.locks.length qk3) (.slice k4 sP.preps.length qk4) (.slice k5 sP.dead.length qk5) (.slice k6 sP.outs.length qk6) (.slice k7 sP.sess.length qk7)).toArray 33 (0,0)) + pt b17 (.cells [.int .i64 xl,.int .i64 xh].toArray 70 (0,0)) + pt b18 (.cells (cellsS sa (.slice m1 sa.blocks.length qm1) (.slice m2 sa.kept.length qm2) (.slice m3 sa.locks.length qm3) (.slice m4 sa.preps.length qm4) (.slice m5 sa.dead.length qm5) (.slice m6 sa.outs.length qm6) (.slice m7 sa.sess.length qm7)).toArray 33 (0,0)) + pt b20 (.cells (cellsS sb (.slice u1 sb.blocks.length qu1) (.slice u2 sb.kept.length qu2) (.slice u3 sb.locks.length qu3) (.slice u4 sb.preps.length qu4) (.slice u5 sb.dead.length qu5) (.slice u6 sb.outs.length qu6) (.slice u7 sb.sess.length qu7)).toArray 33 (0,0)) + fr + R) _ ⟨_,rfl,yK.out⟩ (by repeat (first | exact zT _ | refine zO rfl ?_)) ?_
 rintro j g L hj ⟨R,rfl,rfl⟩
 repeat (first | refine zF ?_ | refine zB ?_ | refine zK rfl rfl rfl ?_ | refine zZ rfl rfl rfl rfl rfl ?_ | refine L_ld rfl rfl rfl rfl rfl ?_ | refine L_len rfl rfl rfl ?_)
 refine yG rfl rfl (pv_lss rfl rfl) (fun n8 => ?_) (fun n8 => ?_)
 ·have hy : j < sP.kept.length := by omega
  obtain ⟨b4,o4,rfl,ep',hep',hat⟩ := rk2Y.at hy
  have hpm := List.getElem_mem hy
  have hin := hkf _ hpm
  have hout := moved_out gP (lo := xl) (hi := xh) hpm
  rw [← hkp] at hout
  have hkd := hkdP _ hpm
  generalize sP.kept[j] = kp at *
  obtain ⟨d1,d2,rfl,hdat'⟩ := id hep'
  repeat (first | refine zF ?_ | refine zR ?_ | refine zB ?_ | refine zE ?_ | refine zK rfl rfl rfl ?_ | refine zZ rfl rfl rfl rfl rfl ?_ | refine L_ld rfl rfl rfl rfl rfl ?_ | refine zP ?_ | refine zJ rfl ?_ | refine L_idx rfl rfl (by omega) rfl rfl ?_ | refine L_atA rfl (by assumption) rfl rfl rfl rfl ?_ | refine L_ldA rfl (vs := [_,_,_,_,_,_,_,_,_,_]) rfl rfl rfl rfl rfl ?_ | refine L_stA rfl (vs := [_,_,_]) rfl rfl rfl rfl (c' := [_,_,_]) rfl rfl ?_ | refine L_stA rfl (vs := [_,_,_,_,_,_,_,_,_,_]) rfl rfl rfl rfl (c' := [_,_,_,_,_,_,_,_,_,_]) rfl rfl ?_ | refine L_alloc (c := [_,_,_]) rfl rfl rfl (fun _ => ?_) | refine L_alloc (c := [_,_,_,_,_,_,_,_,_,_]) rfl rfl rfl (fun _ => ?_))
  refine yG rfl rfl (pv_geq rfl rfl) (fun n9 => ?_) (fun n9 => ?_)
  ·repeat (first | refine zK rfl rfl rfl ?_ | refine zZ rfl rfl rfl rfl rfl ?_ | refine L_ld rfl rfl rfl rfl rfl ?_)
   refine yG rfl rfl (pv_lss rfl rfl) (fun n10 => ?_) (fun n10 => ?_)
   ·have hk19 := kept19_spec w0 DY (.slice u2 sb.kept.length qu2) sb.kept kp.snap kp.no ru2 hokB hzB.kp.1
    repeat (first | refine zF ?_ | refine zB ?_ | refine zE ?_ | refine zK rfl rfl rfl ?_ | refine zZ rfl rfl rfl rfl rfl ?_ | refine L_ld rfl rfl rfl rfl rfl ?_ | refine zJ rfl ?_ | refine L_ldA rfl (vs := [_,_,_,_,_,_,_,_,_,_]) rfl rfl rfl rfl rfl ?_ | refine L_stA rfl (vs := [_,_,_,_,_,_,_,_,_,_]) rfl rfl rfl rfl (c' := [_,_,_,_,_,_,_,_,_,_]) rfl rfl ?_)
    refine zY rfl rfl (zQ rfl rfl rfl) hk19 ?_
    rintro _ _ ⟨vd,hh,rfl,hod,rfl⟩
    have hks := hin (by unfold inK inS; exact decide_eq_true (by omega))
    rw [hks] at hod ⊢
    have hod' : OwL w0 0 kp.data vd hh := hod
    have hsb := sameB_spec w0 (DY + hh) vd (.slice d1 kp.data.length d2) kp.data kp.data (hod'.rdh.mono (hadd_comm _ _)) (hdat'.mono rfl) (by omega) (by omega)
    rw [decide_eq_true (rfl : kp.data = kp.data)] at hsb
    obtain ⟨ag,cg,rfl⟩ := hod'.shape
    repeat (first | refine zF ?_ | refine zB ?_ | refine zE ?_ | refine zK rfl rfl rfl ?_ | refine zZ rfl rfl rfl rfl rfl ?_ | refine L_ld rfl rfl rfl rfl rfl ?_)
    refine zY rfl rfl (zQ rfl rfl rfl) hsb ?_
    rintro _ _ ⟨rfl,rfl⟩
    repeat (first | refine zB ?_ | refine zE ?_ | refine zK rfl rfl rfl ?_ | refine zP ?_ | refine zI rfl ?_ | refine L_add rfl rfl (by omega) (by omega) rfl rfl ?_)
    exact ⟨hy,_,(by repeat (first | exact zT _ | refine zO rfl ?_)),_,rfl,yK.out⟩
   ·have hk19 := kept19_spec w0 DY (.slice m2 sa.kept.length qm2) sa.kept kp.snap kp.no rm2Y hokA hzA.kp.1
    repeat (first | refine zF ?_ | refine zB ?_ | refine zE ?_ | refine zK rfl rfl rfl ?_ | refine zZ rfl rfl rfl rfl rfl ?_ | refine L_ld rfl rfl rfl rfl rfl ?_ | refine zP ?_ | refine zI rfl ?_)
    refine zY rfl rfl (zQ rfl rfl rfl) hk19 ?_
    rintro _ _ ⟨vd,hh,rfl,hod,rfl⟩
    have hks := hout (by unfold inK inS; exact decide_eq_false (by omega))
    rw [hks] at hod ⊢
    have hod' : OwL w0 0 kp.data vd hh := hod
    have hsb := sameB_spec w0 (DY + hh) vd (.slice d1 kp.data.length d2) kp.data kp.data (hod'.rdh.mono (hadd_comm _ _)) (hdat'.mono rfl) (by omega) (by omega)
    rw [decide_eq_true (rfl : kp.data = kp.data)] at hsb
    obtain ⟨ag,cg,rfl⟩ := hod'.shape
    repeat (first | refine zF ?_ | refine zB ?_ | refine zE ?_ | refine zK rfl rfl rfl ?_ | refine zZ rfl rfl rfl rfl rfl ?_ | refine L_ld rfl rfl rfl rfl rfl ?_)
    refine zY rfl rfl (zQ rfl rfl rfl) hsb ?_
    rintro _ _ ⟨rfl,rfl⟩
    repeat (first | refine zB ?_ | refine zE ?_ | refine zK rfl rfl rfl ?_ | refine zP ?_ | refine zI rfl ?_ | refine L_add rfl rfl (by omega) (by omega) rfl rfl ?_)
    exact ⟨hy,_,(by repeat (first | exact zT _ | refine zO rfl ?_)),_,rfl,yK.out⟩
  ·have hk19 := kept19_spec w0 DY (.slice m2 sa.kept.length qm2) sa.kept kp.snap kp.no rm2Y hokA hzA.kp.1
   repeat (first | refine zF ?_ | refine zB ?_ | refine zE ?_ | refine zK rfl rfl rfl ?_ | refine zZ rfl rfl rfl rfl rfl ?_ | refine L_ld rfl rfl rfl rfl rfl ?_ | refine L_skip rfl rfl ?_ | refine zP ?_ | refine zI rfl ?_)
   refine zY rfl rfl (zQ rfl rfl rfl) hk19 ?_
   rintro _ _ ⟨vd,hh,rfl,hod,rfl⟩
   have hks := hout (by unfold inK inS; exact decide_eq_false (by omega))
   rw [hks] at hod ⊢
   have hod' : OwL w0 0 kp.data vd hh := hod
   have hsb := sameB_spec w0 (DY + hh) vd (.slice d1 kp.data.length d2) kp.data kp.data (hod'.rdh.mono (hadd_comm _ _)) (hdat'.mono rfl) (by omega) (by omega)
   rw [decide_eq_true (rfl : kp.data = kp.data)] at hsb
   obtain ⟨ag,cg,rfl⟩ := hod'.shape
   repeat (first | refine zF ?_ | refine zB ?_ | refine zE ?_ | refine zK rfl rfl rfl ?_ | refine zZ rfl rfl rfl rfl rfl ?_ | refine L_ld rfl rfl rfl rfl rfl ?_)
   refine zY rfl rfl (zQ rfl rfl rfl) hsb ?_
   rintro _ _ ⟨rfl,rfl⟩
   repeat (first | refine zB ?_ | refine zE ?_ | refine zK rfl rfl rfl ?_ | refine zP ?_ | refine zI rfl ?_ | refine L_add rfl rfl (by omega) (by omega) rfl rfl ?_)
   exact ⟨hy,_,(by repeat (first | exact zT _ | refine zO rfl ?_)),_,rfl,yK.out⟩
 ·have hz1 := hzA.kp.1
  have hz2 := hzB.kp.1
  have hz3 := hzA.bl.1
  have hz4 := hzB.bl.1
  repeat (first | refine zF ?_ | refine yD ?_ | refine zB ?_ | refine zE ?_ | refine zZ rfl rfl rfl rfl rfl ?_ | refine L_ld rfl rfl rfl rfl rfl ?_ | refine L_len rfl rfl rfl ?_ | refine zI rfl ?_ | refine L_add rfl rfl (by omega) (by omega) rfl rfl ?_)
  refine L_yes rfl rfl (pv_eql rfl rfl) (by omega) ?_
  repeat (first | refine zK rfl rfl rfl ?_ | refine zZ rfl rfl rfl rfl rfl ?_ | refine L_ld rfl rfl rfl rfl rfl ?_ | refine L_len rfl rfl rfl ?_ | refine L_add rfl rfl (by omega) (by omega) rfl rfl ?_)
  refine L_yes rfl rfl (pv_eql rfl rfl) (by omega) ?_
  repeat (refine zK rfl rfl rfl ?_)
  refine zY rfl rfl (zQ rfl rfl rfl) (works22_spec w0) ?_
  rintro _ _ ⟨rfl,rfl⟩
  repeat (first | refine zE ?_ | refine zK rfl rfl rfl ?_ | refine zM ?_)
  exact ⟨[_],0,_,⟨rfl,trivial⟩,⟨rfl,rfl⟩,yK.out⟩
end Sl
end Go.Proofs.YtpkealohodeifaaGreat
