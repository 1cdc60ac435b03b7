/-
  shardKept.proved: for all that is handed in the law function returns true, and what it is given reads as it did. No condition. (Also: ShLb, ShLc, ShLe, ShPl, ShKa, ShLk, Open, ShIn, CKept.)
-/
import Derived.Test.YtpkealohodeifaaGreatKe6
import Derived.Test.YtpkealohodeifaaGreatKe1
import Derived.Deep.Slices
import Derived.Deep.Strs
import Derived.Lib.SmallJoins
import Derived.ChangeArms
import Derived.SizedLaws
import Derived.Test.YtpkealohodeifaaGreatRows
import Derived.WalkKit
import Derived.ProofKit
import Derived.OpenShut
import Derived.ShutString
import Derived.ChangeOld
import Derived.Below
set_option linter.unusedVariables false
set_option linter.unusedSimpArgs false
namespace Go.Proofs.YtpkealohodeifaaGreat
open Go Go.RowKit
namespace Sl
set_option maxHeartbeats 16000000
set_option maxRecDepth 4000
set_option synthInstance.maxHeartbeats 400000
set_option synthInstance.maxSize 100000
attribute [local irreducible] Hold HoldL HoldW
def SmallOp (o : Opn) : Prop := o.parts.length ≤ 200 ∧ o.reads.length ≤ 200 ∧ o.writes.length ≤ 200 ∧ o.data.length ≤ 4096 ∧ ∀ w ∈ o.writes,w.data.length ≤ 4096
theorem SmallOp.small {o : Opn} (h : SmallOp o) : SmallO o := ⟨by have := h.1; omega,by have := h.2.1; omega,by have := h.2.2.1; omega,by have := h.2.2.2.1; omega,fun w hw => by have := h.2.2.2.2 w hw; omega⟩
def LenO (o : Opn) : Prop := o.parts.length ≤ 140737488355328 ∧ o.reads.length ≤ 140737488355328 ∧ o.writes.length ≤ 140737488355328 ∧ o.data.length ≤ 140737488355328 ∧ ∀ w ∈ o.writes,w.data.length ≤ 140737488355328
theorem bigOp_spec (w0 : World) (X : Hp) (o : Opn) (e : List Value) (ho : Rep.rd w0 X o e) (hl : LenO o) :
  Spec Tryz.prog w0 37 [.agg e.toArray,.int .i64 200,.int .i64 4096] X (fun r h' => (r = .bool true ∨ (r = .bool false ∧ SmallOp o)) ∧ X = h') := by
 obtain ⟨x1,y1,x2,y2,x3,y3,x4,y4,rfl,r1,r2,r3,r4⟩ := ho
 obtain ⟨l1,l2,l3,l4,l5⟩ := hl
 refine zN Tryz.func37 rfl Tryz.ntmps37 Tryz.results37 rfl fun fr => ?_
 repeat (first | refine zF ?_ | refine zB ?_ | refine zE ?_ | refine zK rfl rfl rfl ?_ | refine zZ rfl rfl rfl rfl rfl ?_ | refine L_ld rfl rfl rfl rfl rfl ?_ | refine L_len rfl rfl rfl ?_ | refine L_box rfl (c := [_,_,_,_,_,_,_,_,_,_,_,_,_,_,_,_,_]) rfl rfl rfl (fun _ => ?_))
 rename_i b3
 refine yG rfl rfl (pv_gtr rfl rfl) (fun n1 => ?_) (fun n1 => ?_)
 ·repeat (first | refine zF ?_ | refine zB ?_ | refine zE ?_ | refine zK rfl rfl rfl ?_ | refine L_skip rfl rfl ?_ | refine zM ?_ | refine zJ rfl ?_)
  exact ⟨[_],X,_,⟨rfl,trivial⟩,⟨.inl rfl,rfl⟩,yK.out⟩
 repeat (first | refine zK rfl rfl rfl ?_ | refine zZ rfl rfl rfl rfl rfl ?_ | refine L_ld rfl rfl rfl rfl rfl ?_ | refine L_len rfl rfl rfl ?_)
 refine yG rfl rfl (pv_gtr rfl rfl) (fun n2 => ?_) (fun n2 => ?_)
 ·repeat (first | refine zF ?_ | refine zB ?_ | refine zE ?_ | refine zK rfl rfl rfl ?_ | refine L_skip rfl rfl ?_ | refine zM ?_ | refine zJ rfl ?_)
  exact ⟨[_],X,_,⟨rfl,trivial⟩,⟨.inl rfl,rfl⟩,yK.out⟩
 repeat (first | refine zK rfl rfl rfl ?_ | refine zZ rfl rfl rfl rfl rfl ?_ | refine L_ld rfl rfl rfl rfl rfl ?_ | refine L_len rfl rfl rfl ?_)
 refine yG rfl rfl (pv_gtr rfl rfl) (fun n3 => ?_) (fun n3 => ?_)
 ·repeat (first | refine zF ?_ | refine zB ?_ | refine zE ?_ | refine zK rfl rfl rfl ?_ | refine L_skip rfl rfl ?_ | refine zM ?_ | refine zJ rfl ?_)
  exact ⟨[_],X,_,⟨rfl,trivial⟩,⟨.inl rfl,rfl⟩,yK.out⟩
 repeat (first | refine zK rfl rfl rfl ?_ | refine zZ rfl rfl rfl rfl rfl ?_ | refine L_ld rfl rfl rfl rfl rfl ?_ | refine L_len rfl rfl rfl ?_)
 refine yG rfl rfl (pv_gtr rfl rfl) (fun n4 => ?_) (fun n4 => ?_)
 ·repeat (first | refine zF ?_ | refine zB ?_ | refine zE ?_ | refine zK rfl rfl rfl ?_ | refine zM ?_ | refine zJ rfl ?_)
  exact ⟨[_],X,_,⟨rfl,trivial⟩,⟨.inl rfl,rfl⟩,yK.out⟩
 repeat (first | refine zF ?_ | refine zR ?_ | refine zB ?_ | refine zE ?_ | refine zK rfl rfl rfl ?_ | refine zP ?_ | refine zI rfl ?_)
 refine hold_count o.writes.length (fun k g L => ∃ (m : Int) (R : Hp),g = [(2,.int .i64 4096),(3,.pointer (some ⟨b3,0,none⟩)),(7,.int .i64 m),(8,.int .i64 k)] ∧ 0 ≤ m ∧ m ≤ 4096 ∧ (∀ w ∈ o.writes.take k,w.data.length ≤ 4096) ∧
  L = X + opC b3 o (.slice x1 o.parts.length y1) (.slice x2 o.reads.length y2) (.slice x3 o.writes.length y3) (.slice x4 o.data.length y4) + fr + R) _ ⟨0,_,rfl,by omega,by omega,by simp,yK.out⟩ (by repeat (first | exact zT _ | refine zO rfl ?_)) ?_
 rintro k g L hk ⟨m,R,rfl,m0,m1,hpre,rfl⟩
 repeat (first | refine zF ?_ | refine zB ?_ | refine zK rfl rfl rfl ?_ | refine zZ rfl rfl rfl rfl rfl ?_ | refine L_ld rfl rfl rfl rfl rfl ?_ | refine L_len rfl rfl rfl ?_)
 refine yG rfl rfl (pv_lss rfl rfl) (fun n5 => ?_) (fun n5 => ?_)
 ·have hx : k < o.writes.length := by omega
  have hlw := l5 _ (List.getElem_mem hx)
  obtain ⟨bw,ow,rfl,ew,⟨a3,c3,rfl,_⟩,hat⟩ := r3.at hx
  repeat (first | refine zF ?_ | refine zR ?_ | refine zB ?_ | refine zE ?_ | refine zK rfl rfl rfl ?_ | refine zZ rfl rfl rfl rfl rfl ?_ | refine L_ld rfl rfl rfl rfl rfl ?_ | refine L_len rfl rfl rfl ?_ | refine zP ?_ | refine zJ rfl ?_ | refine L_add rfl rfl (by omega) (by omega) rfl rfl ?_ | refine L_idx rfl rfl (by omega) rfl rfl ?_ | refine L_atf rfl (by assumption) rfl rfl rfl rfl ?_)
  refine yH rfl rfl (pv_min2 rfl rfl) ?_
  repeat (first | refine zF ?_ | refine zB ?_ | refine zE ?_ | refine zK rfl rfl rfl ?_ | refine L_add rfl rfl (by omega) (by omega) rfl rfl ?_)
  refine yG rfl rfl (pv_gtr rfl rfl) (fun n6 => ?_) (fun n6 => ?_)
  ·repeat (first | refine zF ?_ | refine zB ?_ | refine zE ?_ | refine zK rfl rfl rfl ?_ | refine zM ?_ | refine zJ rfl ?_)
   exact ⟨[_],X,_,⟨rfl,trivial⟩,⟨.inl rfl,rfl⟩,yK.out⟩
  ·repeat (first | refine zB ?_ | refine zE ?_ | refine zK rfl rfl rfl ?_ | refine zP ?_ | refine zI rfl ?_ | refine L_add rfl rfl (by omega) (by omega) rfl rfl ?_)
   exact ⟨hx,_,(by repeat (first | exact zT _ | refine zO rfl ?_)),_,_,rfl,by omega,by omega,all_take_succ' hx hpre (by omega),yK.out⟩
 ·rw [List.take_of_length_le (by omega)] at hpre
  repeat (first | refine zF ?_ | refine yD ?_ | refine zB ?_ | refine zE ?_ | refine zK rfl rfl rfl ?_ | refine zM ?_ | refine zI rfl ?_)
  exact ⟨[_],X,_,⟨rfl,trivial⟩,⟨.inr ⟨rfl,by omega,by omega,by omega,by omega,hpre⟩,rfl⟩,yK.out⟩
theorem big_spec (w0 : World) (X : Hp) (v : Value) (l : List Opn) (hv : RdL w0 X v l) (hl : l.length ≤ 17592186044416) (hlo : ∀ o ∈ l,LenO o) :
  Spec Tryz.prog w0 22 [v] X (fun r h' => (r = .bool true ∨ (r = .bool false ∧ l.length ≤ 150 ∧ ∀ o ∈ l,SmallOp o)) ∧ X = h') := by
 obtain ⟨a,c,rfl⟩ := hv.shape
 refine zN Tryz.func22 rfl Tryz.ntmps22 Tryz.results22 rfl fun fr => ?_
 repeat (first | refine zF ?_ | refine zB ?_ | refine zE ?_ | refine zK rfl rfl rfl ?_ | refine L_len rfl rfl rfl ?_)
 refine yG rfl rfl (pv_gtr rfl rfl) (fun n1 => ?_) (fun n1 => ?_)
 ·repeat (first | refine zF ?_ | refine zB ?_ | refine zE ?_ | refine zK rfl rfl rfl ?_ | refine zM ?_ | refine zJ rfl ?_)
  exact ⟨[_],X,_,⟨rfl,trivial⟩,⟨.inl rfl,rfl⟩,yK.out⟩
 ·repeat (first | refine zF ?_ | refine zR ?_ | refine zB ?_ | refine zE ?_ | refine zK rfl rfl rfl ?_ | refine zP ?_ | refine zI rfl ?_)
  refine hold_count l.length (fun k g L => ∃ (R : Hp),g = [(0,.slice a l.length c),(3,.int .i64 k)] ∧ (∀ o ∈ l.take k,SmallOp o) ∧ L = X + fr + R) _ ⟨0,rfl,by simp,(yB _).symm⟩ (by repeat (first | exact zT _ | refine zO rfl ?_)) ?_
  rintro k g L hk ⟨R,rfl,hpre,rfl⟩
  repeat (first | refine zF ?_ | refine zB ?_ | refine zK rfl rfl rfl ?_ | refine L_len rfl rfl rfl ?_)
  refine yG rfl rfl (pv_lss rfl rfl) (fun n2 => ?_) (fun n2 => ?_)
  ·have hx : k < l.length := by omega
   obtain ⟨b2,o2,rfl,e,he,hat⟩ := hv.at hx
   have hb := bigOp_spec w0 X l[k] e he (hlo _ (List.getElem_mem hx))
   obtain ⟨x1,y1,x2,y2,x3,y3,x4,y4,rfl,_⟩ := id he
   repeat (first | refine zF ?_ | refine zR ?_ | refine zB ?_ | refine zE ?_ | refine zK rfl rfl rfl ?_ | refine zP ?_ | refine zJ rfl ?_ | refine L_idx rfl rfl (by omega) rfl rfl ?_ | refine L_atA rfl (by assumption) rfl rfl rfl rfl ?_)
   refine zY rfl rfl (zQ rfl rfl rfl) hb ?_
   rintro _ _ ⟨rfl | ⟨rfl,hs⟩,rfl⟩
   ·repeat (first | refine zF ?_ | refine zB ?_ | refine zE ?_ | refine zK rfl rfl rfl ?_ | refine zM ?_ | refine zJ rfl ?_)
    exact ⟨[_],X,_,⟨rfl,trivial⟩,⟨.inl rfl,rfl⟩,yK.out⟩
   ·repeat (first | refine zB ?_ | refine zE ?_ | refine zK rfl rfl rfl ?_ | refine zP ?_ | refine zI rfl ?_ | refine L_add rfl rfl (by omega) (by omega) rfl rfl ?_)
    exact ⟨hx,_,(by repeat (first | exact zT _ | refine zO rfl ?_)),_,rfl,all_take_succ' hx hpre hs,yK.out⟩
  ·rw [List.take_of_length_le (by omega)] at hpre
   repeat (first | refine zF ?_ | refine yD ?_ | refine zB ?_ | refine zE ?_ | refine zK rfl rfl rfl ?_ | refine zM ?_ | refine zI rfl ?_)
   exact ⟨[_],X,_,⟨rfl,trivial⟩,⟨.inr ⟨rfl,by omega,hpre⟩,rfl⟩,yK.out⟩
def newS (lo hi ep : Int) : Shd := ⟨lo,hi,ep,[],[],[],[],[],[],[]⟩
def FirstP (lo hi ep : Int) : Prop := 0 ≤ lo ∧ lo ≤ hi ∧ hi ≤ 64 ∧ 0 ≤ ep ∧ ep ≤ 1099511627776
abbrev nils : Value := .slice none 0 0
theorem first22_spec (w0 : World) (lo hi ep : Int) : Spec Tryz.prog w0 21 [.int .i64 lo,.int .i64 hi,.int .i64 ep] 0
  (fun r h' => (∃ q,r = .tuple #[.agg (cellsS (newS lo hi ep) nils nils nils nils nils nils nils).toArray,.bool q] ∧ (q = true → FirstP lo hi ep)) ∧ 0 = h') := by
 refine zN Tryz.func21 rfl Tryz.ntmps21 Tryz.results21 rfl fun fr => ?_
 repeat' (first|refine zF ?_|refine zB ?_|refine zE ?_|refine zK rfl rfl rfl ?_|refine L_skip rfl rfl ?_|refine zM ?_|refine L_build (vs := [_,_,_]) (cells := [_,_,_,_,_,_,_,_,_,_]) rfl rfl rfl rfl ?_|refine L_stA rfl (vs := [_,_,_,_,_,_,_,_,_,_]) rfl rfl rfl rfl (c' := [_,_,_,_,_,_,_,_,_,_]) rfl rfl ?_|refine L_alloc (c := [_,_,_,_,_,_,_,_,_,_]) rfl rfl rfl (fun _ => ?_)|refine yG rfl rfl (pv_leq rfl rfl) (fun _ => ?_) (fun _ => ?_)|refine yG rfl rfl (pv_geq rfl rfl) (fun _ => ?_) (fun _ => ?_)|exact ⟨[_,_],0,_,⟨⟨_,rfl,zL rfl rfl rfl⟩,rfl,trivial⟩,⟨⟨_,rfl,by first|exact fun _ => ⟨by omega,by omega,by omega,by omega,by omega⟩|exact fun h => Bool.noConfusion h⟩,rfl⟩,yK.out⟩|done)
theorem newS_good {lo hi ep : Int} (h : FirstP lo hi ep) : Good 0 (newS lo hi ep) := by
 obtain ⟨h1,h2,h3,h4,h5⟩ := h
 exact ⟨⟨okB_nil,⟨by simp [newS],by simp [newS]⟩,safe_nil,by simp [newS,Rises],by simp [newS]⟩,⟨by simp [newS],by simp [newS],by simp [newS],by simp [newS],by simp [newS]⟩,⟨h1,h2,h3⟩,⟨h4,h5⟩,by simp [newS],by simp [newS],by simp [newS],by simp [newS],by simp [newS],by simp [newS],by simp [newS],by simp [newS],by simp [newS],by simp [newS]⟩
theorem newS_rd (w0 : World) (X : Hp) (lo hi ep : Int) : RdShd w0 X (newS lo hi ep) (cellsS (newS lo hi ep) nils nils nils nils nils nils nils) :=
 ⟨none,0,none,0,none,0,none,0,none,0,none,0,none,0,rfl,RdL.nil _ _ _,RdL.nil _ _ _,RdL.nil _ _ _,RdL.nil _ _ _,RdL.nil _ _ _,RdL.nil _ _ _,RdL.nil _ _ _⟩
theorem one22_spec (w0 : World) (c : Int) (h0 : 0 ≤ c) (h1 : c ≤ 1000) : Spec Tryz.prog w0 41 [.int .i64 c] 0 (fun r h' => r = .int .i64 (c * 1048576 + 1) ∧ 0 = h') := by
 refine zN Tryz.func41 rfl Tryz.ntmps41 Tryz.results41 rfl fun fr => ?_
 repeat (first | refine zF ?_ | refine zB ?_ | refine zE ?_ | refine zK rfl rfl rfl ?_)
 refine yH rfl rfl (pv_shl rfl rfl (by decide)) ?_
 rw [show IntKind.i64.wrap (c * 2 ^ (min ((20 : Int).toNat) IntKind.i64.bits)) = c * 1048576 by
  rw [show (2 : Int) ^ (min ((20 : Int).toNat) IntKind.i64.bits) = 1048576 from rfl,wrap_i64_in _ (by omega) (by omega)]]
 repeat (first | refine zE ?_ | refine zK rfl rfl rfl ?_ | refine zM ?_ | refine L_add rfl rfl (by omega) (by omega) rfl rfl ?_)
 exact ⟨[_],0,_,⟨rfl,trivial⟩,⟨rfl,rfl⟩,yK.out⟩
def rd0 (seq txn age block : Int) : Opn := ⟨1,txn.fdiv 1048576,seq,txn,age,1,0,0,block,0,0,0,0,[],[],[],[]⟩
def wr0 (seq txn age block : Int) (b : Bt) : Opn := ⟨2,txn.fdiv 1048576,seq,txn,age,1,0,0,0,0,0,0,0,[1],[],[⟨block,[b,0,0,0]⟩],[]⟩
def de0 (txn value : Int) : Opn := ⟨3,0,0,txn,0,0,0,0,0,0,value,0,0,[],[],[],[]⟩
theorem read0_spec (w0 : World) (seq txn age block : Int) : Spec Tryz.prog w0 42 [.int .i64 seq,.int .i64 txn,.int .i64 age,.int .i64 block] 0 (fun r h' => r = .agg (cellsO (rd0 seq txn age block) nils nils nils nils).toArray ∧ 0 = h') := by
 refine zN Tryz.func42 rfl Tryz.ntmps42 Tryz.results42 rfl fun fr => ?_
 repeat (first | refine zF ?_ | refine zB ?_ | refine zE ?_ | refine zK rfl rfl rfl ?_ | refine L_alloc (c := [_,_,_,_,_,_,_,_,_,_,_,_,_,_,_,_,_]) rfl rfl rfl (fun _ => ?_))
 refine yH rfl rfl (pv_shr rfl rfl (by decide)) ?_
 repeat (first | refine zE ?_ | refine zK rfl rfl rfl ?_ | refine zM ?_ | refine L_build (vs := [_,_,_,_,_,_,_]) (cells := [_,_,_,_,_,_,_,_,_,_,_,_,_,_,_,_,_]) rfl rfl rfl rfl ?_ | refine L_stA rfl (vs := [_,_,_,_,_,_,_,_,_,_,_,_,_,_,_,_,_]) rfl rfl rfl rfl (c' := [_,_,_,_,_,_,_,_,_,_,_,_,_,_,_,_,_]) rfl rfl ?_)
 exact ⟨[_],0,_,⟨⟨_,rfl,zL rfl rfl rfl⟩,trivial⟩,⟨rfl,rfl⟩,yK.out⟩
theorem decide0_spec (w0 : World) (txn value : Int) : Spec Tryz.prog w0 44 [.int .i64 txn,.int .i64 value] 0 (fun r h' => r = .agg (cellsO (de0 txn value) nils nils nils nils).toArray ∧ 0 = h') := by
 refine zN Tryz.func44 rfl Tryz.ntmps44 Tryz.results44 rfl fun fr => ?_
 repeat (first | refine zF ?_ | refine zB ?_ | refine zE ?_ | refine zK rfl rfl rfl ?_ | refine zM ?_ | refine L_build (vs := [_,_,_]) (cells := [_,_,_,_,_,_,_,_,_,_,_,_,_,_,_,_,_]) rfl rfl rfl rfl ?_ | refine L_stA rfl (vs := [_,_,_,_,_,_,_,_,_,_,_,_,_,_,_,_,_]) rfl rfl rfl rfl (c' := [_,_,_,_,_,_,_,_,_,_,_,_,_,_,_,_,_]) rfl rfl ?_ | refine L_alloc (c := [_,_,_,_,_,_,_,_,_,_,_,_,_,_,_,_,_]) rfl rfl rfl (fun _ => ?_))
 exact ⟨[_],0,_,⟨⟨_,rfl,zL rfl rfl rfl⟩,trivial⟩,⟨rfl,rfl⟩,yK.out⟩
abbrev sl1 (b n : Nat) : Value := .slice (some ⟨b,0,none⟩) n n
theorem write0_spec (w0 : World) (seq txn age block : Int) (b : Bt) : Spec Tryz.prog w0 43 [.int .i64 seq,.int .i64 txn,.int .i64 age,.int .i64 block,.int .u8 (b.val : Int)] 0
  (fun r h' => ∃ b1 b2 b3,r = .agg (cellsO (wr0 seq txn age block b) (sl1 b1 1) nils (sl1 b3 1) nils).toArray ∧ pt b1 (.cells [.int .i64 1].toArray 3 (0,0)) + pt b2 (.cells [.int .u8 (b.val : Int),.int .u8 0,.int .u8 0,.int .u8 0].toArray 5 (0,0)) + pt b3 (.cells [.int .i64 block,sl1 b2 4].toArray 100 (0,0)) = h') := by
 refine zN Tryz.func43 rfl Tryz.ntmps43 Tryz.results43 rfl fun fr => ?_
 repeat (first | refine zF ?_ | refine zB ?_ | refine zE ?_ | refine zK rfl rfl rfl ?_ | refine L_alloc (c := [_,_,_,_,_,_,_,_,_,_,_,_,_,_,_,_,_]) rfl rfl rfl (fun _ => ?_))
 refine yH rfl rfl (pv_shr rfl rfl (by decide)) ?_
 repeat (first | refine zE ?_ | refine zK rfl rfl rfl ?_ | refine zM ?_ | refine L_build (vs := [_,_]) (cells := [_,_]) rfl rfl rfl rfl ?_ | refine L_build (vs := [_,_,_,_,_,_,_,_]) (cells := [_,_,_,_,_,_,_,_,_,_,_,_,_,_,_,_,_]) rfl rfl rfl rfl ?_ | refine L_stA rfl (vs := [_,_,_,_,_,_,_,_,_,_,_,_,_,_,_,_,_]) rfl rfl rfl rfl (c' := [_,_,_,_,_,_,_,_,_,_,_,_,_,_,_,_,_]) rfl rfl ?_ | refine L_bs (vs := [_]) (cells := [_]) rfl rfl rfl rfl rfl rfl (fun _ => ?_) | refine L_bs (vs := [_]) (cells := [_,_]) rfl rfl rfl rfl rfl rfl (fun _ => ?_) | refine L_bs (vs := [_,_,_,_]) (cells := [_,_,_,_]) rfl rfl rfl rfl rfl rfl (fun _ => ?_))
 rename_i b10 b16 b19 b21
 exact ⟨[_],pt b16 (.cells [.int .i64 1].toArray 3 (0,0)) + pt b19 (.cells [.int .u8 (b.val : Int),.int .u8 0,.int .u8 0,.int .u8 0].toArray 5 (0,0)) + pt b21 (.cells [.int .i64 block,sl1 b19 4].toArray 100 (0,0)),_,⟨⟨_,rfl,zL rfl rfl rfl⟩,trivial⟩,⟨b16,b19,b21,rfl,rfl⟩,yK.out⟩
def playF (s : Shd) (l : List Opn) : Shd × List Int := l.foldl (fun a o => ((applyF a.1 o).1,a.2 ++ [(applyF a.1 o).2.code])) (s,[])
theorem playF_succ (s : Shd) {l : List Opn} {k : Nat} (h : k < l.length) : playF s (l.take (k + 1)) = ((applyF (playF s (l.take k)).1 l[k]).1,(playF s (l.take k)).2 ++ [(applyF (playF s (l.take k)).1 l[k]).2.code]) := by
 unfold playF; rw [List.take_succ_eq_append_getElem h,List.foldl_append]; rfl
theorem playF_good {n : Nat} {s : Shd} (h : Good n s) {l : List Opn} (hn : n + l.length ≤ 191) : ∀ k,k ≤ l.length → Good (n + k) (playF s (l.take k)).1 ∧ (playF s (l.take k)).2.length = k
 | 0,_ => ⟨h,rfl⟩
 | k + 1,hk => by
  obtain ⟨g,hl⟩ := playF_good h hn k (by omega)
  rw [playF_succ s (show k < l.length by omega)]
  exact ⟨(applyF_good g (by omega) _).1,by simp [hl]⟩
theorem play22_spec (w0 : World) (X : Hp) (s : Shd) (es : List Value) (v : Value) (l : List Opn) (n : Nat) (hs : RdShd w0 X s es) (hv : RdL w0 X v l) (hg : Good n s) (hn : n + l.length ≤ 190) (hni : ∀ o ∈ l,NumsIn o) (hso : ∀ o ∈ l,SmallO o) :
  Spec Tryz.prog w0 32 [.agg es.toArray,v] X (fun r h' => ∃ (e1 : List Value) (vo : Value) (D ho : Hp),r = .tuple #[.agg e1.toArray,vo] ∧ RdShd w0 (X + D) (playF s l).1 e1 ∧ OwL w0 0 (playF s l).2 vo ho ∧ X + D + ho = h') := by
 obtain ⟨p1,q1,p2,q2,p3,q3,p4,q4,p5,q5,p6,q6,p7,q7,rfl,_,_,_,_,_,_,_⟩ := id hs
 obtain ⟨a,c,rfl⟩ := hv.shape
 refine zN Tryz.func32 rfl Tryz.ntmps32 Tryz.results32 rfl fun fr => ?_
 repeat (first | refine zF ?_ | refine zR ?_ | refine zB ?_ | refine zE ?_ | refine zK rfl rfl rfl ?_ | refine L_box rfl (c := [_,_,_,_,_,_,_,_,_,_]) rfl rfl rfl (fun _ => ?_) | refine L_alloc (c := [_,_,_,_,_,_,_,_,_,_]) rfl rfl rfl (fun _ => ?_))
 rename_i b2 b4
 refine hold_count l.length (fun k g L => ∃ (ek : List Value) (vo : Value) (D ho R : Hp),g = [(1,.slice a l.length c),(2,.pointer (some ⟨b2,0,none⟩)),(4,.pointer (some ⟨b4,0,none⟩)),(6,vo),(7,.int .i64 k)] ∧ RdShd w0 (X + D) (playF s (l.take k)).1 ek ∧ OwL w0 0 (playF s (l.take k)).2 vo ho ∧
  L = X + D + ho + pt b2 (.cells ek.toArray 33 (0,0)) + pt b4 (.cells [.int .i64 0,.int .i64 0,.int .i64 0,.slice none 0 0,.slice none 0 0,.slice none 0 0,.slice none 0 0,.slice none 0 0,.slice none 0 0,.slice none 0 0].toArray 33 (0,0)) + fr + R) _ ⟨_,_,0,0,_,rfl,by rw [yB]; exact hs,OwL.nil _ _,by simp only [yB]; exact yK.out⟩ (by repeat (first | exact zT _ | refine zO rfl ?_)) ?_
 rintro k g L hk ⟨ek,vo,D,ho,R,rfl,hrk,hov,rfl⟩
 obtain ⟨g1,g2⟩ := playF_good hg (l := l) (by omega) k hk
 obtain ⟨k1,qk1,k2,qk2,k3,qk3,k4,qk4,k5,qk5,k6,qk6,k7,qk7,rfl,_,_,_,_,_,_,_⟩ := id hrk
 repeat (first | refine zF ?_ | refine zB ?_ | refine zK rfl rfl rfl ?_ | refine L_len rfl rfl rfl ?_)
 refine yG rfl rfl (pv_lss rfl rfl) (fun n1 => ?_) (fun n1 => ?_)
 ·have hx : k < l.length := by omega
  have hsucc := playF_succ s hx
  obtain ⟨b7,o7,rfl,e,he,hat⟩ := hv.at hx
  have happ := apply22_spec w0 (X + D) (playF s (l.take k)).1 _ l[k] e (n + k) hrk (Rep.mono rfl he) g1 (by omega) (hni _ (List.getElem_mem hx)) (hso _ (List.getElem_mem hx))
  obtain ⟨x1,y1,x2,y2,x3,y3,x4,y4,rfl,_⟩ := id he
  repeat (first | refine zF ?_ | refine zR ?_ | refine zE ?_ | refine zP ?_ | refine zJ rfl ?_)
  refine hold_join (fun g' L' => ∃ (b8 b9 : Nat) (e1 e2 : List Value) (D2 h hr R : Hp),Sub g' [(1,.slice (some ⟨b7,o7,none⟩) l.length c),(2,.pointer (some ⟨b2,0,none⟩)),(4,.pointer (some ⟨b4,0,none⟩)),(6,vo),(7,.int .i64 k),(8,.pointer (some ⟨b8,0,none⟩)),(9,.pointer (some ⟨b9,0,none⟩))] ∧ OwShd w0 D2 (applyF (playF s (l.take k)).1 l[k]).1 e1 h ∧ OwR w0 (applyF (playF s (l.take k)).1 l[k]).2 (.agg e2.toArray) hr ∧
   L' = X + D + (D2 + h + hr) + ho + pt b2 (.cells (cellsS (playF s (l.take k)).1 (.slice k1 (playF s (l.take k)).1.blocks.length qk1) (.slice k2 (playF s (l.take k)).1.kept.length qk2) (.slice k3 (playF s (l.take k)).1.locks.length qk3) (.slice k4 (playF s (l.take k)).1.preps.length qk4) (.slice k5 (playF s (l.take k)).1.dead.length qk5) (.slice k6 (playF s (l.take k)).1.outs.length qk6) (.slice k7 (playF s (l.take k)).1.sess.length qk7)).toArray 33 (0,0)) + pt b4 (.cells [.int .i64 0,.int .i64 0,.int .i64 0,.slice none 0 0,.slice none 0 0,.slice none 0 0,.slice none 0 0,.slice none 0 0,.slice none 0 0,.slice none 0 0].toArray 33 (0,0)) + pt b8 (.cells e1.toArray 33 (0,0)) + pt b9 (.cells e2.toArray 51 (0,0)) + fr + R) ?_ ?_
  ·refine hold_drawV2 [5,9,10,11,12] [0,1,2,3,4,5,6,7,8] [10,11,12] [9,11,12] 9 8 [.int .i64 0,.int .i64 0,.int .i64 0,.slice none 0 0,.slice none 0 0,.slice none 0 0,.slice none 0 0,.slice none 0 0,.slice none 0 0,.slice none 0 0] 33 10 9 [.int .i64 0,.slice none 0 0] 51 (by kernel_rfl) rfl rfl (by kernel_rfl) (by kernel_rfl) (by kernel_rfl) (by kernel_rfl) (by kernel_rfl) (by kernel_rfl) ?_
   repeat (first | refine V2_of rfl rfl rfl rfl rfl rfl rfl rfl rfl rfl rfl ?_ | refine V2_pure rfl (pv_indexAddr rfl rfl (by omega)) rfl rfl rfl rfl rfl rfl rfl rfl rfl ?_ | refine V2_load rfl (yF rfl) (zL (vs := [_,_,_,_,_,_,_,_,_,_]) rfl rfl rfl) rfl rfl rfl rfl rfl rfl rfl rfl rfl ?_ | refine V2_load rfl (yF rfl) (zH rfl (by assumption) rfl) rfl rfl rfl rfl rfl rfl rfl rfl rfl ?_)
   refine V2_call rfl rfl rfl rfl rfl rfl rfl rfl rfl (zQ rfl rfl rfl) happ (Kept.all _) rfl rfl rfl rfl rfl rfl rfl rfl rfl ?_
   rintro _ _ ⟨e1,e2,D2,h,hr,rfl,how,hor,rfl⟩
   obtain ⟨m1,qm1,m2,qm2,m3,qm3,m4,qm4,m5,qm5,m6,qm6,m7,qm7,w1,w2,w3,w4,w5,w6,w7,rfl,_,_,_,_,_,_,_,rfl⟩ := id how
   obtain ⟨a8,c8,e28,_⟩ := id hor
   obtain rfl : e2 = [.int .i64 (applyF (playF s (l.take k)).1 l[k]).2.code,.slice a8 (applyF (playF s (l.take k)).1 l[k]).2.data.length c8] := by simpa using e28
   refine ⟨(by repeat (first | exact trivial | exact zG rfl (zS rfl) | exact zL rfl rfl rfl | exact zX rfl (by assumption) rfl | exact zH rfl (by assumption) rfl | exact zH rfl (by assumption) (by assumption) | refine ⟨?_,?_⟩)),?_⟩
   repeat (refine V2_of rfl rfl rfl rfl rfl rfl rfl rfl rfl rfl rfl ?_)
   refine V2_now rfl rfl rfl rfl rfl rfl (fun b8 => ?_) (fun b9 => ?_)
   ·refine V_now rfl rfl rfl rfl (fun b9 => ?_)
    refine W_eff rfl rfl rfl rfl (ev_storeA (vs := [_,_,_,_,_,_,_,_,_,_]) rfl rfl rfl rfl (c := [_,_,_,_,_,_,_,_,_,_]) (Nat.le_of_ble_eq_true rfl) (c' := [_,_,_,_,_,_,_,_,_,_]) rfl) (Kept.all _) ?_
    rintro _ _ rfl
    refine ⟨(by repeat (first | exact trivial | exact zG rfl (zS rfl) | exact zL rfl rfl rfl | exact zX rfl (by assumption) rfl | exact zH rfl (by assumption) rfl | exact zH rfl (by assumption) (by assumption) | refine ⟨?_,?_⟩)),?_⟩
    skip
    refine W_eff rfl rfl rfl rfl (ev_storeA (vs := [_,_]) rfl rfl rfl rfl (c := [_,_]) (Nat.le_of_ble_eq_true rfl) (c' := [_,_]) rfl) (Kept.all _) ?_
    rintro _ _ rfl
    refine ⟨(by repeat (first | exact trivial | exact zG rfl (zS rfl) | exact zL rfl rfl rfl | exact zX rfl (by assumption) rfl | exact zH rfl (by assumption) rfl | exact zH rfl (by assumption) (by assumption) | refine ⟨?_,?_⟩)),?_⟩
    repeat (refine yJ ?_)
    exact ⟨b8,b9,_,_,D2,_,hr,_,(by repeat (first | exact zT _ | refine zO rfl ?_)),how,hor,yK.out⟩
   ·refine V_now rfl rfl rfl rfl (fun b8 => ?_)
    refine W_eff rfl rfl rfl rfl (ev_storeA (vs := [_,_,_,_,_,_,_,_,_,_]) rfl rfl rfl rfl (c := [_,_,_,_,_,_,_,_,_,_]) (Nat.le_of_ble_eq_true rfl) (c' := [_,_,_,_,_,_,_,_,_,_]) rfl) (Kept.all _) ?_
    rintro _ _ rfl
    refine ⟨(by repeat (first | exact trivial | exact zG rfl (zS rfl) | exact zL rfl rfl rfl | exact zX rfl (by assumption) rfl | exact zH rfl (by assumption) rfl | exact zH rfl (by assumption) (by assumption) | refine ⟨?_,?_⟩)),?_⟩
    skip
    refine W_eff rfl rfl rfl rfl (ev_storeA (vs := [_,_]) rfl rfl rfl rfl (c := [_,_]) (Nat.le_of_ble_eq_true rfl) (c' := [_,_]) rfl) (Kept.all _) ?_
    rintro _ _ rfl
    refine ⟨(by repeat (first | exact trivial | exact zG rfl (zS rfl) | exact zL rfl rfl rfl | exact zX rfl (by assumption) rfl | exact zH rfl (by assumption) rfl | exact zH rfl (by assumption) (by assumption) | refine ⟨?_,?_⟩)),?_⟩
    repeat (refine yJ ?_)
    exact ⟨b8,b9,_,_,D2,_,hr,_,(by repeat (first | exact zT _ | refine zO rfl ?_)),how,hor,yK.out⟩
  ·rintro g' _ ⟨b8,b9,e1,e2,D2,h,hr,R,hsub,how,hor,rfl⟩
   refine hold_env hsub ?_
   clear hsub g'
   have hrd2 : RdShd w0 (D2 + h) (playF s (l.take (k + 1))).1 e1 := by rw [hsucc]; exact how.rd
   obtain ⟨m1,qm1,m2,qm2,m3,qm3,m4,qm4,m5,qm5,m6,qm6,m7,qm7,w1,w2,w3,w4,w5,w6,w7,rfl,_,_,_,_,_,_,_,rfl⟩ := id how
   obtain ⟨a8,c8,e28,_⟩ := id hor
   obtain rfl : e2 = [.int .i64 (applyF (playF s (l.take k)).1 l[k]).2.code,.slice a8 (applyF (playF s (l.take k)).1 l[k]).2.data.length c8] := by simpa using e28
   repeat (first | refine zF ?_ | refine zB ?_ | refine zE ?_ | refine zK rfl rfl rfl ?_ | refine zZ rfl rfl rfl rfl rfl ?_ | refine L_ld rfl rfl rfl rfl rfl ?_ | refine L_ldA rfl (vs := [_,_,_,_,_,_,_,_,_,_]) rfl rfl rfl rfl rfl ?_ | refine L_stA rfl (vs := [_,_,_,_,_,_,_,_,_,_]) rfl rfl rfl rfl (c' := [_,_,_,_,_,_,_,_,_,_]) rfl rfl ?_ | refine L_bs (vs := [_]) (cells := [_]) rfl rfl rfl rfl rfl rfl (fun _ => ?_))
   refine L_eff rfl rfl (ev_appendL (X := 0) (ns := [(applyF (playF s (l.take k)).1 l[k]).2.code]) (h := ho) rfl rfl hov (rd_one rfl) (All2.one rfl) rfl rfl rfl rfl rfl (by rw [g2,List.length_singleton]; omega)) ?_
   rintro vo' _ ⟨ho',hov',rfl⟩
   repeat (first | refine zB ?_ | refine zE ?_ | refine zK rfl rfl rfl ?_ | refine L_add rfl rfl (by omega) (by omega) rfl rfl ?_)
   exact ⟨hx,_,(by repeat (first | exact zT _ | refine zO rfl ?_)),_,vo',D + (D2 + (w1 + w2 + w3 + w4 + w5 + w6 + w7)),ho',_,rfl,hrd2.mono (show X + (D + (D2 + (w1 + w2 + w3 + w4 + w5 + w6 + w7))) = (D2 + (w1 + w2 + w3 + w4 + w5 + w6 + w7)) + (X + D) by ac_rfl),by rw [hsucc]; exact hov',yK.out⟩
 ·rw [List.take_of_length_le (by omega)] at hrk hov ⊢
  repeat (first | refine zF ?_ | refine yD ?_ | refine zB ?_ | refine zE ?_ | refine zK rfl rfl rfl ?_ | refine zM ?_ | refine zI rfl ?_ | refine L_ldA rfl (vs := [_,_,_,_,_,_,_,_,_,_]) rfl rfl rfl rfl rfl ?_ | refine L_stA rfl (vs := [_,_,_,_,_,_,_,_,_,_]) rfl rfl rfl rfl (c' := [_,_,_,_,_,_,_,_,_,_]) rfl rfl ?_)
  exact ⟨[_,_],X + D + ho,_,⟨⟨_,rfl,zL rfl rfl rfl⟩,rfl,trivial⟩,⟨_,vo,D,ho,rfl,hrk,hov,rfl⟩,yK.out⟩
end Sl
end Go.Proofs.YtpkealohodeifaaGreat
namespace Go.Proofs.YtpkealohodeifaaGreat
open Go Go.RowKit
namespace Sl
set_option maxHeartbeats 16000000
set_option maxRecDepth 4000
set_option synthInstance.maxHeartbeats 400000
set_option synthInstance.maxSize 100000
attribute [local irreducible] Hold HoldL HoldW
abbrev worksOps : List Opn := [rd0 1 1048577 5 4,wr0 1 2097153 3 4 7,rd0 2 1048577 5 5,rd0 3 1048578 9 4,de0 2097153 1]
theorem works_codes : (playF (newS 0 10 1) worksOps).2 = [0,0,24,11,0] := by decide +kernel
theorem works_last : (applyF (playF (newS 0 10 1) worksOps).1 (rd0 4 1048578 9 4)).2 = ⟨0,[7,0,0,0]⟩ ∧ (applyF (playF (newS 0 10 1) worksOps).1 (rd0 4 1048578 9 4)).1.locks.length = 1 := by decide +kernel
theorem rd0_rd (w0 : World) (X : Hp) (seq txn age block : Int) : Rep.rd w0 X (rd0 seq txn age block) (cellsO (rd0 seq txn age block) nils nils nils nils) :=
 ⟨none,0,none,0,none,0,none,0,rfl,RdL.nil _ _ _,RdL.nil _ _ _,RdL.nil _ _ _,RdL.nil _ _ _⟩
theorem de0_rd (w0 : World) (X : Hp) (txn value : Int) : Rep.rd w0 X (de0 txn value) (cellsO (de0 txn value) nils nils nils nils) :=
 ⟨none,0,none,0,none,0,none,0,rfl,RdL.nil _ _ _,RdL.nil _ _ _,RdL.nil _ _ _,RdL.nil _ _ _⟩
abbrev wrH (b1 b2 b3 : Nat) (block : Int) (b : Bt) : Hp := pt b1 (.cells [.int .i64 1].toArray 3 (0,0)) + pt b2 (.cells [.int .u8 (b.val : Int),.int .u8 0,.int .u8 0,.int .u8 0].toArray 5 (0,0)) + pt b3 (.cells [.int .i64 block,sl1 b2 4].toArray 100 (0,0))
theorem wr0_rd (w0 : World) (seq txn age block : Int) (b : Bt) (b1 b2 b3 : Nat) : Rep.rd w0 (wrH b1 b2 b3 block b) (wr0 seq txn age block b) (cellsO (wr0 seq txn age block b) (sl1 b1 1) nils (sl1 b3 1) nils) := by
 have hp : RdL w0 (pt b1 (.cells [.int .i64 1].toArray 3 (0,0))) (sl1 b1 1) [(1 : Int)] := ints_block (b := b1) [1] (by simp)
 have hb : OwL w0 0 [b,0,0,0] (sl1 b2 4) (pt b2 (.cells [.int .u8 (b.val : Int),.int .u8 0,.int .u8 0,.int .u8 0].toArray 5 (0,0))) :=
  OwL.block (ρ := repB) (xs := [b,0,0,0]) (es := [cellB b,cellB 0,cellB 0,cellB 0]) (b := b2) (rdB_enc.2 rfl) (by simp [maxLen])
 have hw : OwL w0 (pt b2 (.cells [.int .u8 (b.val : Int),.int .u8 0,.int .u8 0,.int .u8 0].toArray 5 (0,0))) [(⟨block,[b,0,0,0]⟩ : Wr)] (sl1 b3 1) (pt b3 (.cells [.int .i64 block,sl1 b2 4].toArray 100 (0,0))) :=
  OwL.block (ρ := repWr) (xs := [(⟨block,[b,0,0,0]⟩ : Wr)]) (es := [[.int .i64 block,sl1 b2 4]]) (b := b3) (All2.one (show Rep.rd w0 _ (⟨block,[b,0,0,0]⟩ : Wr) _ from ⟨some ⟨b2,0,none⟩,4,rfl,hb.rdh⟩)) (by simp [maxLen])
 exact ⟨some ⟨b1,0,none⟩,1,none,0,some ⟨b3,0,none⟩,1,none,0,rfl,hp.mono (hadd_assoc _ _ _),RdL.nil _ _ _,hw.rd0.mono (show wrH b1 b2 b3 block b = _ + pt b1 _ by unfold wrH; ac_rfl),RdL.nil _ _ _⟩
theorem works22_spec (w0 : World) : Spec Tryz.prog w0 10 [] 0 (fun r h' => r = .bool true ∧ 0 = h') := by
 have hg0 : Good 0 (newS 0 10 1) := newS_good (by unfold FirstP; omega)
 refine zN Tryz.func10 rfl Tryz.ntmps10 Tryz.results10 rfl fun fr => ?_
 repeat (first | refine zF ?_ | refine zB ?_ | refine zE ?_ | refine zK rfl rfl rfl ?_)
 refine zY rfl rfl (zQ rfl rfl rfl) (one22_spec w0 1 (by omega) (by omega)) ?_
 rintro _ _ ⟨rfl,rfl⟩
 rw [show (1 : Int) * 1048576 + 1 = 1048577 from rfl]
 skip
 refine zY rfl rfl (zQ rfl rfl rfl) (one22_spec w0 2 (by omega) (by omega)) ?_
 rintro _ _ ⟨rfl,rfl⟩
 rw [show (2 : Int) * 1048576 + 1 = 2097153 from rfl]
 repeat (first | refine zF ?_ | refine zB ?_ | refine zE ?_ | refine zK rfl rfl rfl ?_ | refine L_build (vs := [_,_]) (cells := [_,_,_,_,_,_,_,_,_,_]) rfl rfl rfl rfl ?_)
 refine zY rfl rfl (zQ rfl rfl rfl) (read0_spec w0 1 1048577 5 4) ?_
 rintro _ _ ⟨rfl,rfl⟩
 repeat (refine zK rfl rfl rfl ?_)
 refine zY rfl rfl (zQ rfl rfl rfl) (write0_spec w0 1 2097153 3 4 7) ?_
 rintro _ _ ⟨c1,c2,c3,rfl,rfl⟩
 repeat (refine zK rfl rfl rfl ?_)
 refine zY rfl rfl (zQ rfl rfl rfl) (read0_spec w0 2 1048577 5 5) ?_
 rintro _ _ ⟨rfl,rfl⟩
 repeat (first | refine zK rfl rfl rfl ?_ | refine L_add rfl rfl (by omega) (by omega) rfl rfl ?_)
 rw [show (1048577 : Int) + 1 = 1048578 from rfl]
 refine zY rfl rfl (zQ rfl rfl rfl) (read0_spec w0 3 1048578 9 4) ?_
 rintro _ _ ⟨rfl,rfl⟩
 repeat (refine zK rfl rfl rfl ?_)
 refine zY rfl rfl (zQ rfl rfl rfl) (decide0_spec w0 2097153 1) ?_
 rintro _ _ ⟨rfl,rfl⟩
 repeat (refine L_bs (vs := [_,_,_,_,_]) (cells := [_,_,_,_,_,_,_,_,_,_,_,_,_,_,_,_,_,_,_,_,_,_,_,_,_,_,_,_,_,_,_,_,_,_,_,_,_,_,_,_,_,_,_,_,_,_,_,_,_,_,_,_,_,_,_,_,_,_,_,_,_,_,_,_,_,_,_,_,_,_,_,_,_,_,_,_,_,_,_,_,_,_,_,_,_]) rfl rfl rfl rfl rfl rfl (fun _ => ?_))
 rename_i bl
 have hops : OwL w0 (wrH c1 c2 c3 4 7) worksOps (sl1 bl 5) (pt bl (.cells ([cellsO (rd0 1 1048577 5 4) nils nils nils nils,cellsO (wr0 1 2097153 3 4 7) (sl1 c1 1) nils (sl1 c3 1) nils,cellsO (rd0 2 1048577 5 5) nils nils nils nils,cellsO (rd0 3 1048578 9 4) nils nils nils nils,cellsO (de0 2097153 1) nils nils nils nils] : List (List Value)).flatten.toArray 49 (0,0))) :=
  OwL.block (ρ := repOpn) (xs := worksOps) (b := bl) ⟨rd0_rd w0 _ 1 1048577 5 4,wr0_rd w0 1 2097153 3 4 7 c1 c2 c3,rd0_rd w0 _ 2 1048577 5 5,rd0_rd w0 _ 3 1048578 9 4,de0_rd w0 _ 2097153 1,trivial⟩ (by simp [maxLen])
 have hplay := play22_spec w0 _ (newS 0 10 1) _ (sl1 bl 5) worksOps 0 (newS_rd w0 _ 0 10 1) hops.rd0 hg0 (by decide) (by unfold NumsIn; decide) (by intro o ho; simp only [worksOps,List.mem_cons,List.not_mem_nil,or_false] at ho; rcases ho with rfl | rfl | rfl | rfl | rfl <;> (unfold SmallO; simp [rd0,wr0,de0]))
 obtain ⟨g5,hcl⟩ := playF_good hg0 (l := worksOps) (by decide) 5 (by decide)
 rw [show worksOps.take 5 = worksOps from rfl] at g5 hcl
 obtain ⟨wl1,wl2⟩ := works_last
 rw [works_codes] at hplay
 generalize hpl : (playF (newS 0 10 1) worksOps).1 = s5 at *
 skip
 refine holdL_heap (R := 0) (pt bl (.cells ([cellsO (rd0 1 1048577 5 4) nils nils nils nils,cellsO (wr0 1 2097153 3 4 7) (sl1 c1 1) nils (sl1 c3 1) nils,cellsO (rd0 2 1048577 5 5) nils nils nils nils,cellsO (rd0 3 1048578 9 4) nils nils nils nils,cellsO (de0 2097153 1) nils nils nils nils] : List (List Value)).flatten.toArray 49 (0,0)) + (wrH c1 c2 c3 4 7 + fr)) (by simp only [hzero_add,yB]; rfl) ?_
 refine zY rfl rfl (zQ rfl rfl rfl) hplay ?_
 rintro _ _ ⟨e1,vo,D,ho,rfl,hrd,hov,rfl⟩
 generalize wrH c1 c2 c3 4 7 + pt bl (.cells ([cellsO (rd0 1 1048577 5 4) nils nils nils nils,cellsO (wr0 1 2097153 3 4 7) (sl1 c1 1) nils (sl1 c3 1) nils,cellsO (rd0 2 1048577 5 5) nils nils nils nils,cellsO (rd0 3 1048578 9 4) nils nils nils nils,cellsO (de0 2097153 1) nils nils nils nils] : List (List Value)).flatten.toArray 49 (0,0)) = Y at *
 have happ := apply22_spec w0 (Y + D) s5 e1 (rd0 4 1048578 9 4) (cellsO (rd0 4 1048578 9 4) nils nils nils nils) 5 hrd (rd0_rd w0 _ 4 1048578 9 4) (by simpa using g5) (by omega) (by unfold NumsIn; decide) (by unfold SmallO; simp [rd0])
 obtain ⟨k1,qk1,k2,qk2,k3,qk3,k4,qk4,k5,qk5,k6,qk6,k7,qk7,rfl,_,_,_,_,_,_,_⟩ := id hrd
 obtain ⟨av,cv,rfl⟩ := hov.shape
 generalize applyF s5 (rd0 4 1048578 9 4) = ap at *
 obtain ⟨s6,r6⟩ := ap
 simp only at wl1 wl2
 subst wl1
 repeat (first | refine zF ?_ | refine zE ?_ | refine zK rfl rfl rfl ?_ | refine L_stA rfl (vs := [_,_,_,_,_,_,_,_,_,_]) rfl rfl rfl rfl (c' := [_,_,_,_,_,_,_,_,_,_]) rfl rfl ?_ | refine L_alloc (c := [_,_,_,_,_,_,_,_,_,_]) rfl rfl rfl (fun _ => ?_))
 rename_i b3
 refine hold_join (fun g' L' => ∃ (b8 b9 : Nat) (e1 e2 : List Value) (D2 h hr R : Hp),Sub g' [(4,.slice av 5 cv),(5,.pointer (some ⟨b8,0,none⟩)),(6,.pointer (some ⟨b9,0,none⟩))] ∧ OwShd w0 D2 s6 e1 h ∧ OwR w0 ⟨0,[7,0,0,0]⟩ (.agg e2.toArray) hr ∧
  L' = (D2 + h + hr) + ho + pt b8 (.cells e1.toArray 33 (0,0)) + pt b9 (.cells e2.toArray 51 (0,0)) + fr + R) ?_ ?_
 ·refine hold_drawV2 [3,4,8,9,10,11] [0,1,2,3,4,5,6,7] [9,10,11] [8,10,11] 8 5 [.int .i64 0,.int .i64 0,.int .i64 0,.slice none 0 0,.slice none 0 0,.slice none 0 0,.slice none 0 0,.slice none 0 0,.slice none 0 0,.slice none 0 0] 33 9 6 [.int .i64 0,.slice none 0 0] 51 (by kernel_rfl) rfl rfl (by kernel_rfl) (by kernel_rfl) (by kernel_rfl) (by kernel_rfl) (by kernel_rfl) (by kernel_rfl) ?_
  repeat (first | refine V2_of rfl rfl rfl rfl rfl rfl rfl rfl rfl rfl rfl ?_ | refine V2_pure rfl (pv_add rfl rfl (by omega) (by omega)) rfl rfl rfl rfl rfl rfl rfl rfl rfl ?_ | refine V2_load rfl (yF rfl) (zL (vs := [_,_,_,_,_,_,_,_,_,_]) rfl rfl rfl) rfl rfl rfl rfl rfl rfl rfl rfl rfl ?_)
  rw [show (1048577 : Int) + 1 = 1048578 from rfl]
  refine V2_call rfl rfl rfl rfl rfl rfl rfl rfl rfl (zQ rfl rfl rfl) (read0_spec w0 4 1048578 9 4) (Kept.all _) rfl rfl rfl rfl rfl rfl rfl rfl rfl ?_
  rintro _ _ ⟨rfl,rfl⟩
  refine ⟨(by repeat (first | exact trivial | exact zG rfl (zS rfl) | exact zL rfl rfl rfl | exact zX rfl (by assumption) rfl | exact zH rfl (by assumption) rfl | exact zH rfl (by assumption) (by assumption) | refine ⟨?_,?_⟩)),?_⟩
  refine V2_call rfl rfl rfl rfl rfl rfl rfl rfl rfl (zQ rfl rfl rfl) happ (Kept.all _) rfl rfl rfl rfl rfl rfl rfl rfl rfl ?_
  rintro _ _ ⟨e1,e2,D2,h,hr,rfl,how,hor,rfl⟩
  obtain ⟨m1,qm1,m2,qm2,m3,qm3,m4,qm4,m5,qm5,m6,qm6,m7,qm7,w1,w2,w3,w4,w5,w6,w7,rfl,_,_,_,_,_,_,_,rfl⟩ := id how
  obtain ⟨a8,c8,e28,_⟩ := id hor
  obtain rfl : e2 = [.int .i64 0,.slice a8 4 c8] := by simpa using e28
  refine ⟨(by repeat (first | exact trivial | exact zG rfl (zS rfl) | exact zL rfl rfl rfl | exact zX rfl (by assumption) rfl | exact zH rfl (by assumption) rfl | exact zH rfl (by assumption) (by assumption) | refine ⟨?_,?_⟩)),?_⟩
  repeat (refine V2_of rfl rfl rfl rfl rfl rfl rfl rfl rfl rfl rfl ?_)
  refine V2_now rfl rfl rfl rfl rfl rfl (fun b8 => ?_) (fun b9 => ?_)
  ·refine V_now rfl rfl rfl rfl (fun b9 => ?_)
   refine W_eff rfl rfl rfl rfl (ev_storeA (vs := [_,_,_,_,_,_,_,_,_,_]) rfl rfl rfl rfl (c := [_,_,_,_,_,_,_,_,_,_]) (Nat.le_of_ble_eq_true rfl) (c' := [_,_,_,_,_,_,_,_,_,_]) rfl) (Kept.all _) ?_
   rintro _ _ rfl
   refine ⟨(by repeat (first | exact trivial | exact zG rfl (zS rfl) | exact zL rfl rfl rfl | exact zX rfl (by assumption) rfl | exact zH rfl (by assumption) rfl | exact zH rfl (by assumption) (by assumption) | refine ⟨?_,?_⟩)),?_⟩
   skip
   refine W_eff rfl rfl rfl rfl (ev_storeA (vs := [_,_]) rfl rfl rfl rfl (c := [_,_]) (Nat.le_of_ble_eq_true rfl) (c' := [_,_]) rfl) (Kept.all _) ?_
   rintro _ _ rfl
   refine ⟨(by repeat (first | exact trivial | exact zG rfl (zS rfl) | exact zL rfl rfl rfl | exact zX rfl (by assumption) rfl | exact zH rfl (by assumption) rfl | exact zH rfl (by assumption) (by assumption) | refine ⟨?_,?_⟩)),?_⟩
   repeat (refine yJ ?_)
   exact ⟨b8,b9,_,_,D2,_,hr,_,(by repeat (first | exact zT _ | refine zO rfl ?_)),how,hor,yK.out⟩
  ·refine V_now rfl rfl rfl rfl (fun b8 => ?_)
   refine W_eff rfl rfl rfl rfl (ev_storeA (vs := [_,_,_,_,_,_,_,_,_,_]) rfl rfl rfl rfl (c := [_,_,_,_,_,_,_,_,_,_]) (Nat.le_of_ble_eq_true rfl) (c' := [_,_,_,_,_,_,_,_,_,_]) rfl) (Kept.all _) ?_
   rintro _ _ rfl
   refine ⟨(by repeat (first | exact trivial | exact zG rfl (zS rfl) | exact zL rfl rfl rfl | exact zX rfl (by assumption) rfl | exact zH rfl (by assumption) rfl | exact zH rfl (by assumption) (by assumption) | refine ⟨?_,?_⟩)),?_⟩
   skip
   refine W_eff rfl rfl rfl rfl (ev_storeA (vs := [_,_]) rfl rfl rfl rfl (c := [_,_]) (Nat.le_of_ble_eq_true rfl) (c' := [_,_]) rfl) (Kept.all _) ?_
   rintro _ _ rfl
   refine ⟨(by repeat (first | exact trivial | exact zG rfl (zS rfl) | exact zL rfl rfl rfl | exact zX rfl (by assumption) rfl | exact zH rfl (by assumption) rfl | exact zH rfl (by assumption) (by assumption) | refine ⟨?_,?_⟩)),?_⟩
   repeat (refine yJ ?_)
   exact ⟨b8,b9,_,_,D2,_,hr,_,(by repeat (first | exact zT _ | refine zO rfl ?_)),how,hor,yK.out⟩
 ·rintro g' _ ⟨b8,b9,e1,e2,D2,h,hr,R,hsub,how,hor,rfl⟩
  refine hold_env hsub ?_
  clear hsub g'
  obtain ⟨m1,qm1,m2,qm2,m3,qm3,m4,qm4,m5,qm5,m6,qm6,m7,qm7,w1,w2,w3,w4,w5,w6,w7,rfl,_,_,_,_,_,_,_,rfl⟩ := id how
  obtain ⟨a8,c8,e28,o8⟩ := id hor
  obtain rfl : e2 = [.int .i64 0,.slice a8 4 c8] := by simpa using e28
  repeat (first | refine zF ?_ | refine zB ?_ | refine zK rfl rfl rfl ?_ | refine L_bs (vs := [_,_,_,_,_]) (cells := [_,_,_,_,_]) rfl rfl rfl rfl rfl rfl (fun _ => ?_))
  rename_i bc
  have hsi := sameI_spec w0 (ho + intsAt bc [0,0,24,11,0]) (.slice av 5 cv) (sl1 bc 5) [0,0,24,11,0] [0,0,24,11,0] (hov.rdh.mono rfl) ((ints_block (b := bc) [0,0,24,11,0] (by simp)).mono (hadd_comm _ _)) (by simp) (by simp)
  change Spec _ _ _ _ (ho + pt bc (.cells [.int .i64 0,.int .i64 0,.int .i64 24,.int .i64 11,.int .i64 0].toArray 3 (0,0))) _ at hsi
  refine zY rfl rfl (zQ rfl rfl rfl) hsi ?_
  rintro _ _ ⟨rfl,rfl⟩
  rw [decide_eq_true (rfl : ([0,0,24,11,0] : List Int) = [0,0,24,11,0])]
  repeat (first | refine zK rfl rfl rfl ?_ | refine zZ rfl rfl rfl rfl rfl ?_ | refine L_ld rfl rfl rfl rfl rfl ?_)
  refine L_yes rfl rfl (pv_eql rfl rfl) rfl ?_
  repeat (first | refine zK rfl rfl rfl ?_ | refine zZ rfl rfl rfl rfl rfl ?_ | refine L_ld rfl rfl rfl rfl rfl ?_ | refine L_bs (vs := [_,_,_,_]) (cells := [_,_,_,_]) rfl rfl rfl rfl rfl rfl (fun _ => ?_))
  rename_i bd
  have hbd : RdL w0 (pt bd (.cells [.int .u8 7,.int .u8 0,.int .u8 0,.int .u8 0].toArray 5 (0,0))) (sl1 bd 4) ([7,0,0,0] : List Bt) :=
   (OwL.block (ρ := repB) (w0 := w0) (X := 0) (xs := [7,0,0,0]) (es := [cellB 7,cellB 0,cellB 0,cellB 0]) (b := bd) (rdB_enc.2 rfl) (by simp [maxLen])).rdh
  refine zY rfl rfl (zQ rfl rfl rfl) (sameB_spec w0 (hr + pt bd (.cells [.int .u8 7,.int .u8 0,.int .u8 0,.int .u8 0].toArray 5 (0,0))) (.slice a8 4 c8) (sl1 bd 4) [7,0,0,0] [7,0,0,0] (o8.rdh.mono rfl) (hbd.mono (hadd_comm _ _)) (by simp) (by simp)) ?_
  rintro _ _ ⟨rfl,rfl⟩
  rw [decide_eq_true (rfl : ([7,0,0,0] : List Bt) = [7,0,0,0])]
  repeat (first | refine zK rfl rfl rfl ?_ | refine zZ rfl rfl rfl rfl rfl ?_ | refine L_ld rfl rfl rfl rfl rfl ?_ | refine L_len rfl rfl rfl ?_)
  rw [wl2]
  refine L_yes rfl rfl (pv_eql rfl rfl) rfl ?_
  repeat (first | refine zE ?_ | refine zK rfl rfl rfl ?_ | refine zM ?_)
  exact ⟨[_],0,_,⟨rfl,trivial⟩,⟨rfl,rfl⟩,yK.out⟩
end Sl
end Go.Proofs.YtpkealohodeifaaGreat
namespace Go.Proofs.YtpkealohodeifaaGreat
open Go Go.RowKit
namespace Sl
set_option maxHeartbeats 16000000
set_option maxRecDepth 4000
set_option synthInstance.maxHeartbeats 400000
set_option synthInstance.maxSize 100000
attribute [local irreducible] Hold HoldL HoldW
structure SizeS (s : Shd) : Prop where
 bl : s.blocks.length ≤ 1000000000 ∧ ∀ x ∈ s.blocks,x.data.length ≤ 1000000000
 kp : s.kept.length ≤ 1000000000 ∧ ∀ x ∈ s.kept,x.data.length ≤ 1000000000
 lk : s.locks.length ≤ 1000000000
 pr : s.preps.length ≤ 1000000000 ∧ ∀ x ∈ s.preps,x.parts.length ≤ 1000000000 ∧ x.writes.length ≤ 1000000000 ∧ ∀ w ∈ x.writes,w.data.length ≤ 1000000000
 dd : s.dead.length ≤ 1000000000
 ou : s.outs.length ≤ 1000000000 ∧ ∀ x ∈ s.outs,x.data.length ≤ 1000000000
 se : s.sess.length ≤ 1000000000 ∧ ∀ x ∈ s.sess,x.res.data.length ≤ 1000000000
theorem Good.sizeS {n : Nat} {s : Shd} (h : Good n s) (hn : n ≤ 200) : SizeS s := by
 have hb := rise_len (fun x : Blk => x.no) s.blocks 0 64 (by omega) h.ok.blocks.2 (fun x hx => ⟨(h.ok.blocks.1 x hx).1,(h.ok.blocks.1 x hx).2.1⟩)
 refine ⟨⟨by omega,fun x hx => by have := (h.ok.blocks.1 x hx).2.2.1; omega⟩,⟨by have := h.kl; omega,fun x hx => by have := h.ok.kept.1 x hx; omega⟩,by have := h.ok.locks.few; omega,⟨by have := h.pl; omega,fun x hx => ?_⟩,by have := h.dl; omega,⟨by have := h.ol; omega,fun x hx => by have := (h.outs x hx).2; omega⟩,⟨by have := h.xl; omega,fun x hx => by have := (h.sess x hx).2.2; omega⟩⟩
 have hp := h.prs x hx
 exact ⟨by have := hp.parts.1; omega,by have := hp.writes.1; omega,fun w hw => by have := (hp.writes.2 w hw).2; omega⟩
end Sl
end Go.Proofs.YtpkealohodeifaaGreat
namespace Go.Proofs.YtpkealohodeifaaGreat
open Go Go.RowKit
namespace Sl
set_option maxRecDepth 4000
theorem find_sub {α : Type} {p q : α → Bool} (h : ∀ x,q x = true → p x = true) (l : List α) : (l.filter p).find? q = l.find? q := by
 rw [List.find?_filter]
 congr 1
 funext x
 cases hq : q x
 ·simp
 ·simp [h x hq]
theorem find_no {α : Type} {p q : α → Bool} (h : ∀ x,q x = true → p x = false) (l : List α) : (l.filter p).find? q = none := by
 refine List.find?_eq_none.2 fun x hx hq => ?_
 rw [List.mem_filter] at hx
 rw [h x hq] at hx
 exact absurd hx.2 (by simp)
theorem find_keepK (l : List Kpt) (snap no : Int) (d : List Bt) (s n : Int) : keptK (keepK l snap no d) s n = if s = snap ∧ n = no then some ⟨snap,no,d⟩ else keptK l s n := by
 unfold keptK keepK
 by_cases he : s = snap ∧ n = no
 ·obtain ⟨rfl,rfl⟩ := he
  rw [if_pos ⟨rfl,rfl⟩,List.find?_append,find_no (fun x hx => by have hx := of_decide_eq_true hx; refine decide_eq_false ?_; unfold ltKey; omega)]
  simp
 ·rw [if_neg he,List.find?_append,List.find?_cons_of_neg (by simp; intro h1 h2; exact he ⟨h1.symm,h2.symm⟩)]
  by_cases hlt : ltKey s n snap no
  ·rw [find_sub (fun x hx => by have hx := of_decide_eq_true hx; refine decide_eq_true ?_; rw [hx.1,hx.2]; exact hlt),find_no (p := fun x : Kpt => decide (ltKey snap no x.snap x.no)) (fun x hx => by have hx := of_decide_eq_true hx; refine decide_eq_false ?_; unfold ltKey at hlt ⊢; omega)]
   simp
  ·rw [find_no (p := fun x : Kpt => decide (ltKey x.snap x.no snap no)) (fun x hx => by have hx := of_decide_eq_true hx; refine decide_eq_false ?_; rw [hx.1,hx.2]; exact hlt),find_sub (p := fun x : Kpt => decide (ltKey snap no x.snap x.no)) (fun x hx => by have hx := of_decide_eq_true hx; refine decide_eq_true ?_; unfold ltKey at hlt ⊢; omega)]
   simp
theorem find_keptAll (snap : Int) (bs : List Blk) (s n : Int) : ∀ (ns : List Int) (l : List Kpt),keptK (keptAll l snap bs ns) s n = if s = snap ∧ n ∈ ns then some ⟨snap,n,getB bs n⟩ else keptK l s n
 | [],l => by rw [if_neg (by simp)]; rfl
 | m :: ns,l => by
  show keptK (keptAll (keepK l snap m (getB bs m)) snap bs ns) s n = _
  rw [find_keptAll snap bs s n ns,find_keepK]
  by_cases h1 : s = snap
  ·by_cases h2 : n ∈ ns
   ·rw [if_pos ⟨h1,h2⟩,if_pos ⟨h1,by simp [h2]⟩]
   ·rw [if_neg (fun h => h2 h.2)]
    by_cases h3 : n = m
    ·subst h3; rw [if_pos ⟨h1,rfl⟩,if_pos ⟨h1,by simp⟩]
    ·rw [if_neg (fun h => h3 h.2),if_neg (fun h => by simp [h3,h2] at h)]
  ·rw [if_neg (fun h => h1 h.1),if_neg (fun h => h1 h.1),if_neg (fun h => h1 h.1)]
theorem kept_mem {l : List Kpt} (h : OkK l) {x : Kpt} (hx : x ∈ l) : keptK l x.snap x.no = some x := by
 obtain ⟨hd,hp⟩ := h
 unfold keptK
 induction l with
 | nil => simp at hx
 | cons y l ih =>
  obtain ⟨h1,h2⟩ := List.pairwise_cons.1 hp
  rcases List.mem_cons.1 hx with rfl | hx
  ·simp
  ·have := h1 x hx
   rw [List.find?_cons_of_neg (by unfold ltK ltKey at this; simp; omega)]
   exact ih hx (fun z hz => hd z (by simp [hz])) h2
theorem kept_some {l : List Kpt} {s n : Int} {x : Kpt} (h : keptK l s n = some x) : x ∈ l ∧ x.snap = s ∧ x.no = n := by
 unfold keptK at h
 have h1 := List.find?_some h
 exact ⟨List.mem_of_find?_eq_some h,by simpa using h1⟩
theorem readF_same (s : Shd) (o : Opn) : (readF s o).1 = ldS s (readF s o).1.locks (readF s o).1.dead := by
 unfold readF
 split
 ·rfl
 split
 ·rfl
 split
 ·rfl
 ·rfl
theorem prepareF_same (s : Shd) (o : Opn) : (prepareF s o).1.blocks = s.blocks ∧ (prepareF s o).1.kept = s.kept ∧ ((prepareF s o).1.preps = s.preps ∨ (isPrep s o.txn = false ∧ (prepareF s o).1.preps = insP s.preps (prepOf o))) := by
 have hk : ∀ ks,(tkAll (forgetS s o.txn) ks).1.blocks = s.blocks ∧ (tkAll (forgetS s o.txn) ks).1.kept = s.kept ∧ (tkAll (forgetS s o.txn) ks).1.preps = s.preps := fun ks => by
  rw [tkAll_same]; exact ⟨rfl,rfl,rfl⟩
 unfold prepareF
 split
 ·exact ⟨rfl,rfl,.inl rfl⟩
 rename_i hp
 split
 ·exact ⟨rfl,rfl,.inl rfl⟩
 split
 ·exact ⟨rfl,rfl,.inl rfl⟩
 split
 ·exact ⟨rfl,rfl,.inl rfl⟩
 split
 ·exact ⟨(hk _).1,(hk _).2.1,.inl (hk _).2.2⟩
 ·exact ⟨(hk _).1,(hk _).2.1,.inr ⟨by simpa using hp,rfl⟩⟩
theorem decideF_same (s : Shd) (o : Opn) : (decideF s o).1.blocks = (decide1 s o).blocks ∧ (decideF s o).1.kept = (decide1 s o).kept ∧ (decideF s o).1.preps = (decide1 s o).preps := by
 unfold decideF
 show (if _ then endS (decide1 s o) o.txn else decide1 s o).blocks = _ ∧ (if _ then endS (decide1 s o) o.txn else decide1 s o).kept = _ ∧ (if _ then endS (decide1 s o) o.txn else decide1 s o).preps = _
 split
 ·exact ⟨rfl,rfl,rfl⟩
 ·exact ⟨rfl,rfl,rfl⟩
theorem apply_cases (s : Shd) (o : Opn) : (applyF s o).1 = s ∨ (OpOk o ∧ doesK o.kind ∧ (applyF s o) = (noteS (stepF s o).1 o (stepF s o).2,(stepF s o).2)) := by
 unfold applyF
 split
 ·exact .inl rfl
 rename_i hc
 split
 ·exact .inl rfl
 rename_i hd
 split
 ·exact .inl rfl
 split
 ·exact .inl rfl
 ·exact .inr ⟨check_ok (by simpa using hc),by simpa using hd,rfl⟩
end Sl
end Go.Proofs.YtpkealohodeifaaGreat
namespace Go.Proofs.YtpkealohodeifaaGreat
open Go Go.RowKit
namespace Sl
def againF (s : Shd) (o : Opn) (k : Kpt) : Prop := o.kind = 3 ∧ ∃ p ∈ s.preps,p.txn = o.txn ∧ p.snap = k.snap ∧ hasL s.locks o.txn k.no false = true
theorem decide1_kept (s : Shd) (o : Opn) : (decide1 s o).kept = s.kept ∧ (decide1 s o).blocks = s.blocks ∨ ∃ p ∈ s.preps,p.txn = o.txn ∧ (decide1 s o).kept = keptAll s.kept p.snap (wroteB s.blocks p.writes) (mineF s.locks p) ∧ (decide1 s o).blocks = wroteB s.blocks p.writes := by
 unfold decide1
 split
 ·rename_i p hp
  by_cases hv : o.value = 1
  ·rw [if_pos hv]
   exact .inr ⟨p,List.mem_of_find?_eq_some hp,by simpa [isTx] using List.find?_some hp,rfl,rfl⟩
  ·rw [if_neg hv]; exact .inl ⟨rfl,rfl⟩
 ·exact .inl ⟨rfl,rfl⟩
theorem step_kept {s : Shd} {o : Opn} (h3 : o.kind ≠ 3) (h5 : o.kind ≠ 5) (h6 : o.kind ≠ 6) : (stepF s o).1.kept = s.kept := by
 unfold stepF
 split
 ·rw [readF_same]; rfl
 split
 ·exact (prepareF_same s o).2.1
 first | rfl | (rw [if_neg h5,if_neg h6]; rfl)
theorem kept_stays {n : Nat} {s : Shd} (hg : Good n s) {o : Opn} {k : Kpt} (hk : k ∈ s.kept) (h5 : o.kind ≠ 5) (h6 : o.kind ≠ 6) (ha : ¬ againF s o k) : keptK (applyF s o).1.kept k.snap k.no = some k := by
 have h0 := kept_mem hg.ok.kept hk
 rcases apply_cases s o with e | ⟨_,_,e⟩ <;> rw [e]
 ·exact h0
 show keptK (stepF s o).1.kept k.snap k.no = some k
 by_cases h3 : o.kind = 3
 ·have es : stepF s o = decideF s o := by unfold stepF; rw [if_neg (by omega),if_neg (by omega),if_pos h3]
  rw [es,(decideF_same s o).2.1]
  rcases decide1_kept s o with ⟨e1,_⟩ | ⟨p,hp,hpt,e1,_⟩ <;> rw [e1]
  ·exact h0
  ·rw [find_keptAll,if_neg]
   ·exact h0
   ·rintro ⟨c1,c2⟩
    obtain ⟨_,_,_,_,_,_,hh⟩ := mine_mem c2
    rw [hpt] at hh
    exact ha ⟨h3,p,hp,hpt,c1.symm,hh⟩
 ·rw [step_kept h3 h5 h6]; exact h0
theorem kept_was {n : Nat} {s : Shd} (hg : Good n s) (hn : n ≤ 190) {o : Opn} (h3 : o.kind = 3) {k : Kpt} (hk : k ∈ (applyF s o).1.kept) : keptK s.kept k.snap k.no = some k ∨ k.data = getB (applyF s o).1.blocks k.no := by
 have h0 := kept_mem (applyF_good hg hn o).1.ok.kept hk
 rcases apply_cases s o with e | ⟨_,_,e⟩ <;> rw [e] at h0 ⊢
 ·exact .inl h0
 have h1 : keptK (stepF s o).1.kept k.snap k.no = some k := h0
 show _ ∨ k.data = getB (stepF s o).1.blocks k.no
 have es : stepF s o = decideF s o := by unfold stepF; rw [if_neg (by omega),if_neg (by omega),if_pos h3]
 rw [es] at h1 ⊢
 rw [(decideF_same s o).2.1] at h1
 rw [(decideF_same s o).1]
 rcases decide1_kept s o with ⟨e1,_⟩ | ⟨p,hp,hpt,e1,e2⟩
 ·rw [e1] at h1; exact .inl h1
 ·rw [e1,find_keptAll] at h1
  split at h1
  ·rename_i hc
   rw [e2]
   have := Option.some.inj h1
   right
   rw [← this]
  ·exact .inl h1
end Sl
end Go.Proofs.YtpkealohodeifaaGreat
namespace Go.Proofs.YtpkealohodeifaaGreat
open Go Go.RowKit
namespace Sl
set_option maxHeartbeats 16000000
set_option maxRecDepth 4000
set_option synthInstance.maxHeartbeats 400000
set_option synthInstance.maxSize 100000
attribute [local irreducible] Hold HoldL HoldW
theorem playF_one3 (s : Shd) {l : List Opn} {k : Nat} (h : k < l.length) : (playF s (l.take (k + 1))).1 = (applyF (playF s (l.take k)).1 l[k]).1 := by rw [playF_succ s h]
theorem again22_spec (w0 : World) (X : Hp) (s : Shd) (es : List Value) (o : Opn) (eo : List Value) (kp : Kpt) (ek : List Value) (hs : RdShd w0 X s es) (ho : Rep.rd w0 X o eo) (hk : Rep.rd w0 X kp ek) (hz : SizeS s) :
  Spec Tryz.prog w0 36 [.agg es.toArray,.agg eo.toArray,.agg ek.toArray] X (fun r h' => (∃ q,r = .bool q ∧ (againF s o kp → q = true)) ∧ X = h') := by
 obtain ⟨p1,q1,p2,q2,p3,q3,p4,q4,p5,q5,p6,q6,p7,q7,rfl,r1,r2,r3,r4,r5,r6,r7⟩ := id hs
 obtain ⟨x1,y1,x2,y2,x3,y3,x4,y4,rfl,_⟩ := id ho
 obtain ⟨d1,e1,rfl,_⟩ := id hk
 have z1 := hz.pr.1
 have hhas := has20_spec w0 X (.slice p3 s.locks.length q3) s.locks o.txn kp.no false (rdL_locks.1 r3) hz.lk
 refine zN Tryz.func36 rfl Tryz.ntmps36 Tryz.results36 rfl fun fr => ?_
 repeat (first | refine zF ?_ | refine zR ?_ | refine zB ?_ | refine zE ?_ | refine zK rfl rfl rfl ?_ | refine L_box rfl (c := [_,_,_]) rfl rfl rfl (fun _ => ?_) | refine L_box rfl (c := [_,_,_,_,_,_,_,_,_,_]) rfl rfl rfl (fun _ => ?_) | refine L_box rfl (c := [_,_,_,_,_,_,_,_,_,_,_,_,_,_,_,_,_]) rfl rfl rfl (fun _ => ?_))
 rename_i b3 b4 b5
 refine hold_count s.preps.length (fun k g L => ∃ (R : Hp),g = [(3,.pointer (some ⟨b3,0,none⟩)),(4,.pointer (some ⟨b4,0,none⟩)),(5,.pointer (some ⟨b5,0,none⟩)),(7,.int .i64 k)] ∧ (∀ x ∈ s.preps.take k,¬ (x.txn = o.txn ∧ x.snap = kp.snap ∧ hasL s.locks o.txn kp.no false = true)) ∧
  L = X + pt b3 (.cells (cellsS s (.slice p1 s.blocks.length q1) (.slice p2 s.kept.length q2) (.slice p3 s.locks.length q3) (.slice p4 s.preps.length q4) (.slice p5 s.dead.length q5) (.slice p6 s.outs.length q6) (.slice p7 s.sess.length q7)).toArray 33 (0,0)) + pt b4 (.cells [.int .i64 o.kind,.int .i64 o.client,.int .i64 o.seq,.int .i64 o.txn,.int .i64 o.age,.int .i64 o.epoch,.int .i64 o.lo,.int .i64 o.hi,.int .i64 o.block,.int .i64 o.snap,.int .i64 o.value,.int .i64 o.src,.int .i64 o.dst,.slice x1 o.parts.length y1,.slice x2 o.reads.length y2,.slice x3 o.writes.length y3,.slice x4 o.data.length y4].toArray 49 (0,0)) + pt b5 (.cells [.int .i64 kp.snap,.int .i64 kp.no,.slice d1 kp.data.length e1].toArray 73 (0,0)) + fr + R) _ ⟨_,rfl,by simp,yK.out⟩ (by repeat (first | exact zT _ | refine zO rfl ?_)) ?_
 rintro k g L hk ⟨R,rfl,hpre,rfl⟩
 repeat (first | refine zF ?_ | refine zB ?_ | refine zK rfl rfl rfl ?_ | refine zZ rfl rfl rfl rfl rfl ?_ | refine L_ld rfl rfl rfl rfl rfl ?_ | refine L_len rfl rfl rfl ?_)
 refine yG rfl rfl (pv_lss rfl rfl) (fun n1 => ?_) (fun n1 => ?_)
 rotate_left
 ·rw [List.take_of_length_le (by omega)] at hpre
  repeat (first | refine zF ?_ | refine yD ?_ | refine zB ?_ | refine zE ?_ | refine zK rfl rfl rfl ?_ | refine L_skip rfl rfl ?_ | refine zM ?_ | refine zI rfl ?_)
  exact ⟨[_],X,_,⟨rfl,trivial⟩,⟨⟨_,rfl,fun ⟨_,p,hp,h1,h2,h3⟩ => absurd ⟨h1,h2,h3⟩ (hpre p hp)⟩,rfl⟩,yK.out⟩
 repeat (first | refine zK rfl rfl rfl ?_ | refine zZ rfl rfl rfl rfl rfl ?_ | refine L_ld rfl rfl rfl rfl rfl ?_)
 refine yG rfl rfl (pv_eql rfl rfl) (fun n2 => ?_) (fun n2 => ?_)
 rotate_left
 ·repeat (first | refine zF ?_ | refine yD ?_ | refine zB ?_ | refine zE ?_ | refine zK rfl rfl rfl ?_ | refine zM ?_ | refine zI rfl ?_)
  exact ⟨[_],X,_,⟨rfl,trivial⟩,⟨⟨_,rfl,fun h => absurd h.1 n2⟩,rfl⟩,yK.out⟩
 have hx : k < s.preps.length := by omega
 obtain ⟨b6,o6,rfl,e,he,hat⟩ := r4.at hx
 have hmore := fun h => all_take_succ' (p := fun x : Prp => ¬ (x.txn = o.txn ∧ x.snap = kp.snap ∧ hasL s.locks o.txn kp.no false = true)) hx hpre h
 generalize s.preps[k] = p at *
 obtain ⟨u1,v1,u2,v2,rfl,_,_⟩ := id he
 repeat (first | refine zF ?_ | refine zR ?_ | refine zE ?_ | refine zK rfl rfl rfl ?_ | refine zP ?_ | refine zJ rfl ?_)
 refine yC [27] [0,1,2,3,4,5,6,7,8,9,10,11,12,13,14,15,16,17,18,19,20,21,22,23,24,25,26,27,28] (by kernel_rfl) rfl (by kernel_rfl) (by kernel_rfl) ?_
 repeat (first | refine yI rfl rfl rfl rfl rfl ?_ | refine yE rfl rfl rfl rfl (yA rfl rfl rfl) ?_ | refine W_load rfl rfl rfl rfl (yF rfl) (zG rfl (zS rfl)) ?_ | refine W_idx rfl rfl rfl (by omega) rfl rfl rfl ?_ | refine W_atf rfl rfl (by assumption) rfl rfl rfl rfl rfl ?_)
 refine W_dec rfl rfl rfl rfl (pv_eql rfl rfl) (fun c1 => ?_) (fun c1 => ?_)
 rotate_left
 ·repeat (first | refine yJ ?_ | refine yI rfl rfl rfl rfl rfl ?_ | refine W_skip rfl rfl rfl rfl ?_ | refine W_not rfl rfl rfl rfl ?_)
  repeat (first | refine zB ?_ | refine zE ?_ | refine zK rfl rfl rfl ?_ | refine zP ?_ | refine zI rfl ?_ | refine L_add rfl rfl (by omega) (by omega) rfl rfl ?_)
  exact ⟨hx,_,(by repeat (first | exact zT _ | refine zO rfl ?_)),_,rfl,hmore (fun h => c1 h.1),yK.out⟩
 repeat (first | refine yI rfl rfl rfl rfl rfl ?_ | refine yE rfl rfl rfl rfl (yA rfl rfl rfl) ?_ | refine W_load rfl rfl rfl rfl (yF rfl) (zG rfl (zS rfl)) ?_ | refine W_idx rfl rfl rfl (by omega) rfl rfl rfl ?_ | refine W_atf rfl rfl (by assumption) rfl rfl rfl rfl rfl ?_)
 refine W_dec rfl rfl rfl rfl (pv_eql rfl rfl) (fun c2 => ?_) (fun c2 => ?_)
 rotate_left
 ·repeat (first | refine yJ ?_ | refine yI rfl rfl rfl rfl rfl ?_ | refine W_skip rfl rfl rfl rfl ?_ | refine W_not rfl rfl rfl rfl ?_)
  repeat (first | refine zB ?_ | refine zE ?_ | refine zK rfl rfl rfl ?_ | refine zP ?_ | refine zI rfl ?_ | refine L_add rfl rfl (by omega) (by omega) rfl rfl ?_)
  exact ⟨hx,_,(by repeat (first | exact zT _ | refine zO rfl ?_)),_,rfl,hmore (fun h => c2 h.2.1),yK.out⟩
 repeat (first | refine yI rfl rfl rfl rfl rfl ?_ | refine yE rfl rfl rfl rfl (yA rfl rfl rfl) ?_ | refine W_load rfl rfl rfl rfl (yF rfl) (zG rfl (zS rfl)) ?_)
 refine W_call rfl rfl rfl rfl (zQ rfl rfl rfl) hhas (Kept.all _) ?_
 rintro _ _ ⟨rfl,rfl⟩
 refine ⟨(by repeat (first | exact trivial | exact zG rfl (zS rfl) | exact zL rfl rfl rfl | exact zX rfl (by assumption) rfl | exact zH rfl (by assumption) rfl | exact zH rfl (by assumption) (by assumption) | refine ⟨?_,?_⟩)),?_⟩
 generalize hasL s.locks o.txn kp.no false = hb at *
 cases hb
 ·repeat (first | refine yJ ?_ | refine yI rfl rfl rfl rfl rfl ?_)
  repeat (first | refine zB ?_ | refine zE ?_ | refine zK rfl rfl rfl ?_ | refine zP ?_ | refine zI rfl ?_ | refine L_add rfl rfl (by omega) (by omega) rfl rfl ?_)
  exact ⟨hx,_,(by repeat (first | exact zT _ | refine zO rfl ?_)),_,rfl,hmore (fun h => by cases h.2.2),yK.out⟩
 ·repeat (first | refine yJ ?_ | refine yI rfl rfl rfl rfl rfl ?_)
  repeat (first | refine zF ?_ | refine zB ?_ | refine zE ?_ | refine zK rfl rfl rfl ?_ | refine zM ?_ | refine zJ rfl ?_)
  exact ⟨[_],X,_,⟨rfl,trivial⟩,⟨⟨_,rfl,fun _ => rfl⟩,rfl⟩,yK.out⟩
theorem shardKept_spec (w0 : World) (lo hi ep : Int) (v : Value) (l : List Opn) (hv : RdL w0 0 v l) (hl : l.length ≤ 17592186044416) (hlo : ∀ o ∈ l,LenO o) (hni : ∀ o ∈ l,NumsIn o) :
  Spec Tryz.prog w0 8 [.int .i64 lo,.int .i64 hi,.int .i64 ep,v] 0 (fun r h' => r = .bool true ∧ 0 = h') := by
 obtain ⟨a,c,rfl⟩ := hv.shape
 refine zN Tryz.func8 rfl Tryz.ntmps8 Tryz.results8 rfl fun fr => ?_
 repeat (first | refine zF ?_ | refine zB ?_ | refine zE ?_ | refine zK rfl rfl rfl ?_)
 refine zY rfl rfl (zQ rfl rfl rfl) (first22_spec w0 lo hi ep) ?_
 rintro _ _ ⟨⟨q,rfl,hq⟩,rfl⟩
 repeat (first | refine zF ?_ | refine zB ?_ | refine zE ?_ | refine zK rfl rfl rfl ?_ | refine L_stA rfl (vs := [_,_,_,_,_,_,_,_,_,_]) rfl rfl rfl rfl (c' := [_,_,_,_,_,_,_,_,_,_]) rfl rfl ?_ | refine L_alloc (c := [_,_,_,_,_,_,_,_,_,_]) rfl rfl rfl (fun _ => ?_))
 rename_i b9
 refine zY rfl rfl (zQ rfl rfl rfl) (big_spec w0 0 _ l hv hl hlo) ?_
 rintro _ _ ⟨hbig,rfl⟩
 rcases hbig with rfl | ⟨rfl,hb1,hb2⟩
 ·repeat (first | refine zF ?_ | refine zB ?_ | refine zE ?_ | refine zK rfl rfl rfl ?_ | refine L_skip rfl rfl ?_ | refine zJ rfl ?_)
  refine zY rfl rfl (zQ rfl rfl rfl) (works22_spec w0) ?_
  rintro _ _ ⟨rfl,rfl⟩
  repeat (first | refine zE ?_ | refine zK rfl rfl rfl ?_ | refine zM ?_)
  exact ⟨[_],0,_,⟨rfl,trivial⟩,⟨rfl,rfl⟩,yK.out⟩
 cases q
 ·repeat (first | refine zF ?_ | refine zB ?_ | refine zE ?_ | refine zK rfl rfl rfl ?_ | refine zJ rfl ?_)
  refine zY rfl rfl (zQ rfl rfl rfl) (works22_spec w0) ?_
  rintro _ _ ⟨rfl,rfl⟩
  repeat (first | refine zE ?_ | refine zK rfl rfl rfl ?_ | refine zM ?_)
  exact ⟨[_],0,_,⟨rfl,trivial⟩,⟨rfl,rfl⟩,yK.out⟩
 have hg0 := newS_good (hq rfl)
 have hr0 := newS_rd w0 0 lo hi ep
 generalize newS lo hi ep = s0 at *
 repeat (first | refine zF ?_ | refine zR ?_ | refine zB ?_ | refine zE ?_ | refine zK rfl rfl rfl ?_ | refine zP ?_ | refine zI rfl ?_)
 refine hold_count l.length (fun k g L => ∃ (ek : List Value) (D R : Hp),g = [(3,.slice a l.length c),(9,.pointer (some ⟨b9,0,none⟩)),(11,.int .i64 k)] ∧ RdShd w0 D (playF s0 (l.take k)).1 ek ∧
  L = D + pt b9 (.cells ek.toArray 33 (0,0)) + fr + R) _ ⟨_,0,_,rfl,hr0,yK.out⟩ (by repeat (first | exact zT _ | refine zO rfl ?_)) ?_
 rintro k g L hk ⟨ek,D,R,rfl,hrk,rfl⟩
 obtain ⟨g1,g2⟩ := playF_good hg0 (l := l) (by omega) k hk
 repeat (first | refine zF ?_ | refine zB ?_ | refine zK rfl rfl rfl ?_ | refine L_len rfl rfl rfl ?_)
 refine yG rfl rfl (pv_lss rfl rfl) (fun n1 => ?_) (fun n1 => ?_)
 ·have hx : k < l.length := by omega
  have hsucc := playF_one3 s0 hx
  obtain ⟨b7,o7,rfl,e,he,hat⟩ := hv.at hx
  have hmem := List.getElem_mem hx
  generalize l[k] = o at *
  generalize (playF s0 (l.take k)).1 = sk at *
  have hso := (hb2 o hmem).small
  have hno := hni o hmem
  obtain ⟨g3,hok3⟩ := applyF_good g1 (by omega) o
  have happ := apply22_spec w0 D sk _ o e (0 + k) hrk (Rep.mono (hzero_add _).symm he) g1 (by omega) hno hso
  have hstay : ∀ kp ∈ sk.kept,o.kind ≠ 5 → o.kind ≠ 6 → ¬ againF sk o kp → keptK (applyF sk o).1.kept kp.snap kp.no = some kp := fun kp hp h5 h6 ha => kept_stays g1 hp h5 h6 ha
  have hwas : o.kind = 3 → ∀ kp ∈ (applyF sk o).1.kept,keptK sk.kept kp.snap kp.no = some kp ∨ kp.data = getB (applyF sk o).1.blocks kp.no := fun h3 kp hp => kept_was g1 (by omega) h3 hp
  have hz1 := g1.sizeS (by omega)
  have hzk := hz1.kp.1
  have hok1 := g1.ok.kept
  have hkd1 := hok1.1
  obtain ⟨k1,qk1,k2,qk2,k3,qk3,k4,qk4,k5,qk5,k6,qk6,k7,qk7,rfl,rk1,rk2,_,rk4,_,_,_⟩ := id hrk
  obtain ⟨x1,y1,x2,y2,x3,y3,x4,y4,rfl,ho1,ho2,ho3,ho4⟩ := id he
  generalize hap : applyF sk o = ap at *
  obtain ⟨s1,r1⟩ := ap
  have hsc : (playF s0 (List.take (k + 1) l)).1 = s1 := hsucc
  have hz3 : SizeS s1 := g3.sizeS (by omega)
  have hzk3 := hz3.kp.1
  have hok2 : OkK s1.kept := g3.ok.kept
  have hob2 : OkB s1.blocks := g3.ok.blocks
  have hkd2 := hok2.1
  simp only at hstay hwas
  repeat (first | refine zF ?_ | refine zR ?_ | refine zB ?_ | refine zE ?_ | refine zK rfl rfl rfl ?_ | refine zP ?_ | refine zJ rfl ?_ | refine L_idx rfl rfl (by omega) rfl rfl ?_ | refine L_atA rfl (by assumption) rfl rfl rfl rfl ?_ | refine L_ldA rfl (vs := [_,_,_,_,_,_,_,_,_,_]) rfl rfl rfl rfl rfl ?_ | refine L_ldA rfl (vs := [_,_,_,_,_,_,_,_,_,_,_,_,_,_,_,_,_]) rfl rfl rfl rfl rfl ?_ | refine L_stA rfl (vs := [_,_,_,_,_,_,_,_,_,_,_,_,_,_,_,_,_]) rfl rfl rfl rfl (c' := [_,_,_,_,_,_,_,_,_,_,_,_,_,_,_,_,_]) rfl rfl ?_ | refine L_alloc (c := [_,_,_,_,_,_,_,_,_,_,_,_,_,_,_,_,_]) rfl rfl rfl (fun _ => ?_))
  rename_i b12
  refine zY rfl rfl (zQ rfl rfl rfl) happ ?_
  rintro _ _ ⟨e1,e2,D2,h,hr,rfl,how,hor,rfl⟩
  have hrd1 : RdShd w0 (D + (D2 + h + hr)) s1 e1 := how.rd.mono (show _ = D2 + h + (D + hr) by ac_rfl)
  obtain ⟨m1,qm1,m2,qm2,m3,qm3,m4,qm4,m5,qm5,m6,qm6,m7,qm7,rfl,rm1,rm2,_,_,_,_,_⟩ := id hrd1
  obtain ⟨a8,c8,e28,_⟩ := id hor
  obtain rfl : e2 = [.int .i64 r1.code,.slice a8 r1.data.length c8] := by simpa using e28
  generalize hDX : D + (D2 + h + hr) = DX at *
  have hrkX : RdShd w0 DX sk _ := hrk.mono hDX.symm
  have rk2X := rk2.mono hDX.symm
  have heX := Rep.mono (hzero_add DX).symm he
  have hag := fun (kp : Kpt) (ek : List Value) (hk : Rep.rd w0 DX kp ek) => again22_spec w0 DX sk _ o _ kp ek hrkX heX hk hz1
  repeat (first | refine zF ?_ | refine zR ?_ | refine zB ?_ | refine zE ?_ | refine zK rfl rfl rfl ?_ | refine L_stA rfl (vs := [_,_]) rfl rfl rfl rfl (c' := [_,_]) rfl rfl ?_ | refine L_stA rfl (vs := [_,_,_,_,_,_,_,_,_,_]) rfl rfl rfl rfl (c' := [_,_,_,_,_,_,_,_,_,_]) rfl rfl ?_ | refine L_alloc (c := [_,_]) rfl rfl rfl (fun _ => ?_) | refine L_alloc (c := [_,_,_,_,_,_,_,_,_,_]) rfl rfl rfl (fun _ => ?_))
  rename_i b13 b14
  refine hold_count sk.kept.length (fun j g L => ∃ (R : Hp),g = [(3,.slice (some ⟨b7,o7,none⟩) l.length c),(9,.pointer (some ⟨b9,0,none⟩)),(11,.int .i64 k),(12,.pointer (some ⟨b12,0,none⟩)),(13,.pointer (some ⟨b13,0,none⟩)),(15,.int .i64 j)] ∧
   L = DX + pt b9 (.cells (cellsS sk (.slice k1 sk.blocks.length qk1) (.slice k2 sk.kept.length qk2) (.slice k3 sk.locks.length qk3) (.slice k4 sk.preps.length qk4) (.slice k5 sk.dead.length qk5) (.slice k6 sk.outs.length qk6) (.slice k7 sk.sess.length qk7)).toArray 33 (0,0)) + pt b12 (.cells [.int .i64 o.kind,.int .i64 o.client,.int .i64 o.seq,.int .i64 o.txn,.int .i64 o.age,.int .i64 o.epoch,.int .i64 o.lo,.int .i64 o.hi,.int .i64 o.block,.int .i64 o.snap,.int .i64 o.value,.int .i64 o.src,.int .i64 o.dst,.slice x1 o.parts.length y1,.slice x2 o.reads.length y2,.slice x3 o.writes.length y3,.slice x4 o.data.length y4].toArray 49 (0,0)) + pt b13 (.cells (cellsS s1 (.slice m1 s1.blocks.length qm1) (.slice m2 s1.kept.length qm2) (.slice m3 s1.locks.length qm3) (.slice m4 s1.preps.length qm4) (.slice m5 s1.dead.length qm5) (.slice m6 s1.outs.length qm6) (.slice m7 s1.sess.length qm7)).toArray 33 (0,0)) + fr + R) _ ⟨_,rfl,yK.out⟩ (by repeat (first | exact zT _ | refine zO rfl ?_)) ?_
  rintro j g L hj ⟨R,rfl,rfl⟩
  repeat (first | refine zF ?_ | refine zB ?_ | refine zK rfl rfl rfl ?_ | refine zZ rfl rfl rfl rfl rfl ?_ | refine L_ld rfl rfl rfl rfl rfl ?_ | refine L_len rfl rfl rfl ?_)
  refine yG rfl rfl (pv_lss rfl rfl) (fun n2 => ?_) (fun n2 => ?_)
  ·have hy : j < sk.kept.length := by omega
   obtain ⟨b4,o4,rfl,ep,hep,hat2⟩ := rk2X.at hy
   have hpm := List.getElem_mem hy
   have hst := hstay _ hpm
   have hkd := hkd1 _ hpm
   have hagk := hag _ _ hep
   generalize sk.kept[j] = kp at *
   obtain ⟨d1,d2,rfl,hdat⟩ := id hep
   have hk19 := kept19_spec w0 DX (.slice m2 s1.kept.length qm2) s1.kept kp.snap kp.no rm2 hok2 hzk3
   repeat (first | refine zF ?_ | refine zR ?_ | refine zE ?_ | refine zP ?_ | refine zJ rfl ?_)
   refine yC [14] [0,1,2,3,4,5,6,7,8,9,10,11,12,13,14,15,16,17,18,19] (by kernel_rfl) rfl (by kernel_rfl) (by kernel_rfl) ?_
   repeat (first | refine yI rfl rfl rfl rfl rfl ?_ | refine yE rfl rfl rfl rfl (yA rfl rfl rfl) ?_ | refine W_load rfl rfl rfl rfl (yF rfl) (zG rfl (zS rfl)) ?_ | refine W_idx rfl rfl rfl (by omega) rfl rfl rfl ?_ | refine W_atf rfl rfl (by assumption) rfl rfl rfl rfl rfl ?_)
   refine W_call rfl rfl rfl rfl (zQ rfl rfl rfl) hk19 (Kept.all _) ?_
   rintro _ _ ⟨vd,hh,rfl,hod,rfl⟩
   refine ⟨(by repeat (first | exact trivial | exact zG rfl (zS rfl) | exact zL rfl rfl rfl | exact zX rfl (by assumption) rfl | exact zH rfl (by assumption) rfl | exact zH rfl (by assumption) (by assumption) | refine ⟨?_,?_⟩)),?_⟩
   repeat (first | refine yJ ?_ | refine yI rfl rfl rfl rfl rfl ?_)
   repeat (refine zF ?_)
   refine yC [16,30] [0,1,2,3,4,5,6,7,8,9,10,11,12,13,14,15,16,17,18,19,20,21,22,23,24,25,26,27,28,29,30,31,32,33] (by kernel_rfl) rfl (by kernel_rfl) (by kernel_rfl) ?_
   repeat (first | refine yE rfl rfl rfl rfl (yA rfl rfl rfl) ?_ | refine W_load rfl rfl rfl rfl (yF rfl) (zG rfl (zS rfl)) ?_)
   refine W_dec rfl rfl rfl rfl (pv_neq rfl rfl) (fun c1 => ?_) (fun c1 => ?_)
   rotate_left
   ·repeat (first | refine yJ ?_ | refine yI rfl rfl rfl rfl rfl ?_ | refine W_skip rfl rfl rfl rfl ?_ | refine W_not rfl rfl rfl rfl ?_)
    repeat (first | refine zB ?_ | refine zE ?_ | refine zK rfl rfl rfl ?_ | refine zP ?_ | refine zI rfl ?_ | refine L_add rfl rfl (by omega) (by omega) rfl rfl ?_)
    exact ⟨hy,_,(by repeat (first | exact zT _ | refine zO rfl ?_)),_,rfl,yK.out⟩
   repeat (first | refine yI rfl rfl rfl rfl rfl ?_ | refine yE rfl rfl rfl rfl (yA rfl rfl rfl) ?_ | refine W_load rfl rfl rfl rfl (yF rfl) (zG rfl (zS rfl)) ?_)
   refine W_dec rfl rfl rfl rfl (pv_neq rfl rfl) (fun c2 => ?_) (fun c2 => ?_)
   rotate_left
   ·repeat (first | refine yJ ?_ | refine yI rfl rfl rfl rfl rfl ?_ | refine W_skip rfl rfl rfl rfl ?_ | refine W_not rfl rfl rfl rfl ?_)
    repeat (first | refine zB ?_ | refine zE ?_ | refine zK rfl rfl rfl ?_ | refine zP ?_ | refine zI rfl ?_ | refine L_add rfl rfl (by omega) (by omega) rfl rfl ?_)
    exact ⟨hy,_,(by repeat (first | exact zT _ | refine zO rfl ?_)),_,rfl,yK.out⟩
   repeat (first | refine yI rfl rfl rfl rfl rfl ?_ | refine yE rfl rfl rfl rfl (yA rfl rfl rfl) ?_ | refine W_load rfl rfl rfl rfl (yF rfl) (zG rfl (zS rfl)) ?_ | refine W_load rfl rfl rfl rfl (yF rfl) (zL (vs := [_,_,_,_,_,_,_,_,_,_]) rfl rfl rfl) ?_ | refine W_load rfl rfl rfl rfl (yF rfl) (zL (vs := [_,_,_,_,_,_,_,_,_,_,_,_,_,_,_,_,_]) rfl rfl rfl) ?_ | refine W_idx rfl rfl rfl (by omega) rfl rfl rfl ?_ | refine W_atA rfl rfl (by assumption) rfl rfl rfl rfl rfl ?_)
   refine W_call rfl rfl rfl rfl (zQ rfl rfl rfl) hagk (Kept.all _) ?_
   rintro _ _ ⟨⟨q,rfl,hqt⟩,rfl⟩
   refine ⟨(by repeat (first | exact trivial | exact zG rfl (zS rfl) | exact zL rfl rfl rfl | exact zX rfl (by assumption) rfl | exact zH rfl (by assumption) rfl | exact zH rfl (by assumption) (by assumption) | refine ⟨?_,?_⟩)),?_⟩
   cases q
   rotate_left
   ·repeat (first | refine yJ ?_ | refine yI rfl rfl rfl rfl rfl ?_ | refine W_skip rfl rfl rfl rfl ?_ | refine W_not rfl rfl rfl rfl ?_)
    repeat (first | refine zB ?_ | refine zE ?_ | refine zK rfl rfl rfl ?_ | refine zP ?_ | refine zI rfl ?_ | refine L_add rfl rfl (by omega) (by omega) rfl rfl ?_)
    exact ⟨hy,_,(by repeat (first | exact zT _ | refine zO rfl ?_)),_,rfl,yK.out⟩
   have hks := hst c1 c2 (fun ha => by have := hqt ha; cases this)
   rw [hks] at hod ⊢
   have hod' : OwL w0 0 kp.data vd hh := hod
   have hsb := sameB_spec w0 (DX + hh) vd (.slice d1 kp.data.length d2) kp.data kp.data (hod'.rdh.mono (hadd_comm _ _)) (hdat.mono rfl) (by omega) (by omega)
   rw [decide_eq_true (rfl : kp.data = kp.data)] at hsb
   obtain ⟨ag,cg,rfl⟩ := hod'.shape
   repeat (first | refine yI rfl rfl rfl rfl rfl ?_ | refine yE rfl rfl rfl rfl (yA rfl rfl rfl) ?_ | refine W_load rfl rfl rfl rfl (yF rfl) (zG rfl (zS rfl)) ?_ | refine W_idx rfl rfl rfl (by omega) rfl rfl rfl ?_ | refine W_atf rfl rfl (by assumption) rfl rfl rfl rfl rfl ?_)
   refine W_call rfl rfl rfl rfl (zQ rfl rfl rfl) hsb (Kept.all _) ?_
   rintro _ _ ⟨rfl,rfl⟩
   refine ⟨(by repeat (first | exact trivial | exact zG rfl (zS rfl) | exact zL rfl rfl rfl | exact zX rfl (by assumption) rfl | exact zH rfl (by assumption) rfl | exact zH rfl (by assumption) (by assumption) | refine ⟨?_,?_⟩)),?_⟩
   repeat (first | refine yJ ?_ | refine yI rfl rfl rfl rfl rfl ?_)
   repeat (first | refine zB ?_ | refine zE ?_ | refine zK rfl rfl rfl ?_ | refine zP ?_ | refine zI rfl ?_ | refine L_add rfl rfl (by omega) (by omega) rfl rfl ?_)
   exact ⟨hy,_,(by repeat (first | exact zT _ | refine zO rfl ?_)),_,rfl,yK.out⟩
  ·repeat (first | refine zF ?_ | refine zR ?_ | refine yD ?_ | refine zB ?_ | refine zE ?_ | refine zK rfl rfl rfl ?_ | refine zI rfl ?_)
   refine hold_count s1.kept.length (fun j g L => ∃ (R : Hp),g = [(3,.slice (some ⟨b7,o7,none⟩) l.length c),(9,.pointer (some ⟨b9,0,none⟩)),(11,.int .i64 k),(12,.pointer (some ⟨b12,0,none⟩)),(13,.pointer (some ⟨b13,0,none⟩)),(18,.int .i64 j)] ∧
    L = DX + pt b9 (.cells (cellsS sk (.slice k1 sk.blocks.length qk1) (.slice k2 sk.kept.length qk2) (.slice k3 sk.locks.length qk3) (.slice k4 sk.preps.length qk4) (.slice k5 sk.dead.length qk5) (.slice k6 sk.outs.length qk6) (.slice k7 sk.sess.length qk7)).toArray 33 (0,0)) + pt b12 (.cells [.int .i64 o.kind,.int .i64 o.client,.int .i64 o.seq,.int .i64 o.txn,.int .i64 o.age,.int .i64 o.epoch,.int .i64 o.lo,.int .i64 o.hi,.int .i64 o.block,.int .i64 o.snap,.int .i64 o.value,.int .i64 o.src,.int .i64 o.dst,.slice x1 o.parts.length y1,.slice x2 o.reads.length y2,.slice x3 o.writes.length y3,.slice x4 o.data.length y4].toArray 49 (0,0)) + pt b13 (.cells (cellsS s1 (.slice m1 s1.blocks.length qm1) (.slice m2 s1.kept.length qm2) (.slice m3 s1.locks.length qm3) (.slice m4 s1.preps.length qm4) (.slice m5 s1.dead.length qm5) (.slice m6 s1.outs.length qm6) (.slice m7 s1.sess.length qm7)).toArray 33 (0,0)) + fr + R) _ ⟨_,rfl,yK.out⟩ (by repeat (first | exact zT _ | refine zO rfl ?_)) ?_
   rintro j g L hj ⟨R,rfl,rfl⟩
   repeat (first | refine zF ?_ | refine zB ?_ | refine zZ rfl rfl rfl rfl rfl ?_ | refine L_ld rfl rfl rfl rfl rfl ?_)
   refine yG rfl rfl (pv_eql rfl rfl) (fun n3 => ?_) (fun n3 => ?_)
   rotate_left
   ·repeat (first | refine yD ?_ | refine zB ?_ | refine zE ?_ | refine zK rfl rfl rfl ?_ | refine L_skip rfl rfl ?_ | refine zI rfl ?_ | refine L_add rfl rfl (by omega) (by omega) rfl rfl ?_ | refine L_ldA rfl (vs := [_,_,_,_,_,_,_,_,_,_]) rfl rfl rfl rfl rfl ?_ | refine L_stA rfl (vs := [_,_,_,_,_,_,_,_,_,_]) rfl rfl rfl rfl (c' := [_,_,_,_,_,_,_,_,_,_]) rfl rfl ?_)
    exact ⟨hx,_,(by repeat (first | exact zT _ | refine zO rfl ?_)),_,DX,_,rfl,by rw [hsc]; exact hrd1,yK.out⟩
   repeat (first | refine zK rfl rfl rfl ?_ | refine zZ rfl rfl rfl rfl rfl ?_ | refine L_ld rfl rfl rfl rfl rfl ?_ | refine L_len rfl rfl rfl ?_)
   refine yG rfl rfl (pv_lss rfl rfl) (fun n4 => ?_) (fun n4 => ?_)
   rotate_left
   ·repeat (first | refine yD ?_ | refine zB ?_ | refine zE ?_ | refine zK rfl rfl rfl ?_ | refine zI rfl ?_ | refine L_add rfl rfl (by omega) (by omega) rfl rfl ?_ | refine L_ldA rfl (vs := [_,_,_,_,_,_,_,_,_,_]) rfl rfl rfl rfl rfl ?_ | refine L_stA rfl (vs := [_,_,_,_,_,_,_,_,_,_]) rfl rfl rfl rfl (c' := [_,_,_,_,_,_,_,_,_,_]) rfl rfl ?_)
    exact ⟨hx,_,(by repeat (first | exact zT _ | refine zO rfl ?_)),_,DX,_,rfl,by rw [hsc]; exact hrd1,yK.out⟩
   have hy : j < s1.kept.length := by omega
   obtain ⟨b4,o4,rfl,ep,hep,hat2⟩ := rm2.at hy
   have hpm := List.getElem_mem hy
   have hws := hwas n3 _ hpm
   have hkd := hkd2 _ hpm
   generalize s1.kept[j] = kp at *
   obtain ⟨d1,d2,rfl,hdat⟩ := id hep
   have hk19 := kept19_spec w0 DX (.slice k2 sk.kept.length qk2) sk.kept kp.snap kp.no rk2X hok1 hzk
   have hks := fun y => kept_some (l := sk.kept) (s := kp.snap) (n := kp.no) (x := y)
   have hgl := getB_len hob2 kp.no
   repeat (first | refine zF ?_ | refine zR ?_ | refine zE ?_ | refine zK rfl rfl rfl ?_ | refine zP ?_ | refine zJ rfl ?_)
   refine yC [14] [0,1,2,3,4,5,6,7,8,9,10,11,12,13,14,15,16,17,18,19] (by kernel_rfl) rfl (by kernel_rfl) (by kernel_rfl) ?_
   repeat (first | refine yI rfl rfl rfl rfl rfl ?_ | refine yE rfl rfl rfl rfl (yA rfl rfl rfl) ?_ | refine W_load rfl rfl rfl rfl (yF rfl) (zG rfl (zS rfl)) ?_ | refine W_idx rfl rfl rfl (by omega) rfl rfl rfl ?_ | refine W_atf rfl rfl (by assumption) rfl rfl rfl rfl rfl ?_)
   refine W_call rfl rfl rfl rfl (zQ rfl rfl rfl) hk19 (Kept.all _) ?_
   rintro _ _ ⟨vd,hh,rfl,hod,rfl⟩
   refine ⟨(by repeat (first | exact trivial | exact zG rfl (zS rfl) | exact zL rfl rfl rfl | exact zX rfl (by assumption) rfl | exact zH rfl (by assumption) rfl | exact zH rfl (by assumption) (by assumption) | refine ⟨?_,?_⟩)),?_⟩
   repeat (first | refine yJ ?_ | refine yI rfl rfl rfl rfl rfl ?_)
   have hg19 := get19_spec w0 (DX + hh) (.slice m1 s1.blocks.length qm1) s1.blocks kp.no (rm1.mono rfl) hob2
   have hsb2 := fun (vg : Value) (hgh : Hp) (hog : OwL w0 0 (getB s1.blocks kp.no) vg hgh) => sameB_spec w0 (DX + hh + hgh) (.slice d1 kp.data.length d2) vg kp.data (getB s1.blocks kp.no) (hdat.mono (hadd_assoc _ _ _)) (hog.rdh.mono (hadd_comm _ _)) (by omega) (by omega)
   generalize keptK sk.kept kp.snap kp.no = kq at *
   cases kq
   ·have hdg : kp.data = getB s1.blocks kp.no := by rcases hws with h | h; cases h; exact h
    repeat (refine zF ?_)
    refine yC [10,28,29] [0,1,2,3,4,5,6,7,8,9,10,11,12,13,14,15,16,17,18,19,20,21,22,23,24,25,26,27,28,29,30,31] (by kernel_rfl) rfl (by kernel_rfl) (by kernel_rfl) ?_
    repeat (first | refine yI rfl rfl rfl rfl rfl ?_ | refine yE rfl rfl rfl rfl (yA rfl rfl rfl) ?_ | refine W_load rfl rfl rfl rfl (yF rfl) (zG rfl (zS rfl)) ?_ | refine W_skip rfl rfl rfl rfl ?_ | refine W_not rfl rfl rfl rfl ?_ | refine W_idx rfl rfl rfl (by omega) rfl rfl rfl ?_ | refine W_atf rfl rfl (by assumption) rfl rfl rfl rfl rfl ?_)
    refine W_call rfl rfl rfl rfl (zQ rfl rfl rfl) hg19 (Kept.all _) ?_
    rintro vg _ ⟨hgh,hog,rfl⟩
    have hsb3 := hsb2 vg hgh hog
    rw [decide_eq_true hdg] at hsb3
    obtain ⟨ag2,cg2,rfl⟩ := hog.shape
    refine ⟨(by repeat (first | exact trivial | exact zG rfl (zS rfl) | exact zL rfl rfl rfl | exact zX rfl (by assumption) rfl | exact zH rfl (by assumption) rfl | exact zH rfl (by assumption) (by assumption) | refine ⟨?_,?_⟩)),?_⟩
    skip
    refine W_call rfl rfl rfl rfl (zQ rfl rfl rfl) hsb3 (Kept.all _) ?_
    rintro _ _ ⟨rfl,rfl⟩
    refine ⟨(by repeat (first | exact trivial | exact zG rfl (zS rfl) | exact zL rfl rfl rfl | exact zX rfl (by assumption) rfl | exact zH rfl (by assumption) rfl | exact zH rfl (by assumption) (by assumption) | refine ⟨?_,?_⟩)),?_⟩
    repeat (first | refine yJ ?_ | refine yI rfl rfl rfl rfl rfl ?_)
    repeat (first | refine zB ?_ | refine zE ?_ | refine zK rfl rfl rfl ?_ | refine zP ?_ | refine zI rfl ?_ | refine L_add rfl rfl (by omega) (by omega) rfl rfl ?_)
    exact ⟨hy,_,(by repeat (first | exact zT _ | refine zO rfl ?_)),_,rfl,yK.out⟩
   ·rename_i y
    have hyd := hkd1 y (hks y rfl).1
    have hod' : OwL w0 0 y.data vd hh := hod
    have hsb := sameB_spec w0 (DX + hh) vd (.slice d1 kp.data.length d2) y.data kp.data (hod'.rdh.mono (hadd_comm _ _)) (hdat.mono rfl) (by omega) (by omega)
    obtain ⟨ag,cg,rfl⟩ := hod'.shape
    repeat (refine zF ?_)
    refine yC [10,28,29] [0,1,2,3,4,5,6,7,8,9,10,11,12,13,14,15,16,17,18,19,20,21,22,23,24,25,26,27,28,29,30,31] (by kernel_rfl) rfl (by kernel_rfl) (by kernel_rfl) ?_
    repeat (first | refine yI rfl rfl rfl rfl rfl ?_ | refine yE rfl rfl rfl rfl (yA rfl rfl rfl) ?_ | refine W_load rfl rfl rfl rfl (yF rfl) (zG rfl (zS rfl)) ?_ | refine W_idx rfl rfl rfl (by omega) rfl rfl rfl ?_ | refine W_atf rfl rfl (by assumption) rfl rfl rfl rfl rfl ?_)
    refine W_call rfl rfl rfl rfl (zQ rfl rfl rfl) hsb (Kept.all _) ?_
    rintro _ _ ⟨rfl,rfl⟩
    refine ⟨(by repeat (first | exact trivial | exact zG rfl (zS rfl) | exact zL rfl rfl rfl | exact zX rfl (by assumption) rfl | exact zH rfl (by assumption) rfl | exact zH rfl (by assumption) (by assumption) | refine ⟨?_,?_⟩)),?_⟩
    by_cases hyk : y.data = kp.data
    ·rw [decide_eq_true hyk]
     repeat (first | refine yJ ?_ | refine yI rfl rfl rfl rfl rfl ?_ | refine W_skip rfl rfl rfl rfl ?_ | refine W_not rfl rfl rfl rfl ?_)
     repeat (first | refine zB ?_ | refine zE ?_ | refine zK rfl rfl rfl ?_ | refine zP ?_ | refine zI rfl ?_ | refine L_add rfl rfl (by omega) (by omega) rfl rfl ?_)
     exact ⟨hy,_,(by repeat (first | exact zT _ | refine zO rfl ?_)),_,rfl,yK.out⟩
    ·have hdg : kp.data = getB s1.blocks kp.no := by
      rcases hws with h | h
      ·exact absurd (by rw [Option.some.inj h]) hyk
      ·exact h
     rw [decide_eq_false hyk]
     repeat (first | refine yI rfl rfl rfl rfl rfl ?_ | refine yE rfl rfl rfl rfl (yA rfl rfl rfl) ?_ | refine W_load rfl rfl rfl rfl (yF rfl) (zG rfl (zS rfl)) ?_ | refine W_idx rfl rfl rfl (by omega) rfl rfl rfl ?_ | refine W_atf rfl rfl (by assumption) rfl rfl rfl rfl rfl ?_)
     refine W_call rfl rfl rfl rfl (zQ rfl rfl rfl) hg19 (Kept.all _) ?_
     rintro vg _ ⟨hgh,hog,rfl⟩
     have hsb3 := hsb2 vg hgh hog
     rw [decide_eq_true hdg] at hsb3
     obtain ⟨ag2,cg2,rfl⟩ := hog.shape
     refine ⟨(by repeat (first | exact trivial | exact zG rfl (zS rfl) | exact zL rfl rfl rfl | exact zX rfl (by assumption) rfl | exact zH rfl (by assumption) rfl | exact zH rfl (by assumption) (by assumption) | refine ⟨?_,?_⟩)),?_⟩
     skip
     refine W_call rfl rfl rfl rfl (zQ rfl rfl rfl) hsb3 (Kept.all _) ?_
     rintro _ _ ⟨rfl,rfl⟩
     refine ⟨(by repeat (first | exact trivial | exact zG rfl (zS rfl) | exact zL rfl rfl rfl | exact zX rfl (by assumption) rfl | exact zH rfl (by assumption) rfl | exact zH rfl (by assumption) (by assumption) | refine ⟨?_,?_⟩)),?_⟩
     repeat (first | refine yJ ?_ | refine yI rfl rfl rfl rfl rfl ?_)
     repeat (first | refine zB ?_ | refine zE ?_ | refine zK rfl rfl rfl ?_ | refine zP ?_ | refine zI rfl ?_ | refine L_add rfl rfl (by omega) (by omega) rfl rfl ?_)
     exact ⟨hy,_,(by repeat (first | exact zT _ | refine zO rfl ?_)),_,rfl,yK.out⟩
 ·repeat (first | refine zF ?_ | refine yD ?_ | refine zB ?_ | refine zE ?_ | refine zI rfl ?_)
  refine zY rfl rfl (zQ rfl rfl rfl) (works22_spec w0) ?_
  rintro _ _ ⟨rfl,rfl⟩
  repeat (first | refine zE ?_ | refine zK rfl rfl rfl ?_ | refine zM ?_)
  exact ⟨[_],0,_,⟨rfl,trivial⟩,⟨rfl,rfl⟩,yK.out⟩
end Sl
end Go.Proofs.YtpkealohodeifaaGreat
namespace Go.Proofs.YtpkealohodeifaaGreat
open Go Go.RowKit Go.ChangeShapes Go.WideShapes Go.ChangeAt Go.Deep
namespace Sl
section
variable {H : Type} {enc : TypeId × Value → H} {P : Program} {w0 : World}
theorem weightsAll_mem' {e : TypeId} : ∀ {l : List (DataW H)} {d : DataW H},d ∈ l → ∀ n ∈ d.weights P e,n ∈ DataW.weightsAll P e l
 | x :: l,d,hd,n,hn => by
  simp only [DataW.weightsAll]
  rcases List.mem_cons.1 hd with rfl | hd
  ·exact List.mem_append_left _ hn
  ·exact List.mem_append_right _ (weightsAll_mem' hd n hn)
theorem open_rd {t e : TypeId} {sz fuel : Nat} {v : Value} {d : DataW H} {p : List MemPlace} (ht : P.underlying t = some (.slice e)) (hsz : P.cellsOf e = sz) (h0 : 0 < sz)
  (h : DataW.trod enc P w0 0 (fun _ => true) true fuel t [v] = some (d,p)) {B : Nat} (hB : ∀ n ∈ d.weights P t,n ≤ B) :
  ∃ es,RdRow w0 0 sz v es ∧ es.length * P.bytesOf e ≤ B ∧ ∀ (i : Nat) (x : List Value),es[i]? = some x → ∃ D Pl n,DataW.trod enc P w0 0 (fun _ => true) true n e x = some (D,Pl) ∧ ∀ m ∈ D.weights P e,m ≤ B := by
 rcases open_slice ht h with ⟨hc,hx⟩ | ⟨a,len,cap,m,n,D,Pl,hc,hb,hl,hm,hmm,hx,hall⟩
 ·simp only [List.cons.injEq,and_true] at hc
  subst hc
  exact ⟨[],⟨none,0,rfl,by simp,fun i x hx => by simp at hx⟩,by simp,fun i x hx => by simp at hx⟩
 ·simp only [List.cons.injEq,and_true] at hc
  subst hc
  simp only [if_true] at hmm
  subst hmm
  simp only [Prod.mk.injEq] at hx
  obtain ⟨rfl,rfl⟩ := hx
  rw [hsz] at hall
  obtain ⟨F,hF⟩ := choose_lt (α := List Value) hall
  have hat : ∀ (i : Nat) (x : List Value),((List.range len).map F)[i]? = some x → i < len ∧ x = F i := by
   intro i x hx
   rw [List.getElem?_map] at hx
   by_cases hi : i < len
   ·rw [List.getElem?_range hi] at hx
    exact ⟨hi,(Option.some.inj hx).symm⟩
   ·rw [List.getElem?_eq_none (by simpa using hi)] at hx; cases hx
  have hlen : ∀ i,i < len → (F i).length = sz := fun i hi => (World.cells?_some (hF i (by omega)).1).2.1
  refine ⟨(List.range len).map F,⟨some a,m,by simp,?_,?_⟩,?_,?_⟩
  ·intro x hx
   obtain ⟨i,hi,rfl⟩ := List.mem_map.1 hx
   exact hlen i (List.mem_range.1 hi)
  ·intro i x hx
   obtain ⟨hi,rfl⟩ := hat i x hx
   have hspot : a.spot = none := by
    obtain ⟨_,h2,h3⟩ := World.cells?_some (hF 0 (by omega)).1
    have h4 := h3 0 h0
    rw [List.getElem?_eq_getElem (show 0 < (F 0).length by omega)] at h4
    simpa [Addr.add] using World.cell?_spot h4
   obtain ⟨b,off,spot⟩ := a
   obtain rfl : spot = none := hspot
   refine ⟨b,off,rfl,fun j u hu => ?_⟩
   obtain ⟨_,h2,h3⟩ := World.cells?_some (hF i (by omega)).1
   have hj : j < sz := by rw [← h2]; exact (List.getElem?_eq_some_iff.1 hu).1
   have h4 := h3 j hj
   rw [add_none,add_none,hu] at h4
   exact reads_base h4
  ·have := hB ((((List.range len).map D).length + ((List.range (m - len)).map fun j => D (len + j)).length) * P.bytesOf e) (by simp [DataW.weights,ht])
   refine Nat.le_trans (Nat.mul_le_mul_right _ ?_) this
   simp
  ·intro i x hx
   obtain ⟨hi,rfl⟩ := hat i x hx
   refine ⟨D i,Pl i,n,(hF i (by omega)).2,fun q hq => hB q ?_⟩
   simp only [DataW.weights,ht]
   refine List.mem_cons_of_mem _ (List.mem_append_left _ (weightsAll_mem' (List.mem_map.2 ⟨i,List.mem_range.2 hi,rfl⟩) q hq))
end
end Sl
end Go.Proofs.YtpkealohodeifaaGreat
namespace Go.Proofs.YtpkealohodeifaaGreat.shIn
open Sl
open Go.ChangeShapes Go.WideShapes Go.ChangeAt Go.RowKit Go.Deep Go.Joins
set_option maxRecDepth 100000
theorem own : ownKnob Tryz.prog.godebug = none := by kernel_rfl
theorem laidOut : laidOutB Tryz.prog = true := by kernel_rfl
section
variable {H : Type} {enc : TypeId × Value → H} {w0 : World}
theorem all2_of {α : Type} {R : α → List Value → Prop} {Q : α → Prop} : ∀ {es : List (List Value)},(∀ (i : Nat) (x : List Value),es[i]? = some x → ∃ q,R q x ∧ Q q) → ∃ l : List α,All2 R l es ∧ ∀ q ∈ l,Q q
 | [],_ => ⟨[],trivial,by simp⟩
 | x :: es,h => by
  obtain ⟨q,hq,hQ⟩ := h 0 x rfl
  obtain ⟨l,hl,hQs⟩ := all2_of (es := es) (R := R) (Q := Q) fun i y hy => h (i + 1) y (by simpa using hy)
  exact ⟨q :: l,⟨hq,hl⟩,by simpa using ⟨hQ,hQs⟩⟩
theorem open_list {α : Type} [ρ : Rep α] (Q : α → Prop) {t e : TypeId} {B fuel : Nat} {v : Value} {d : DataW H} {p : List MemPlace} (ht : Tryz.prog.underlying t = some (.slice e)) (hsz : Tryz.prog.cellsOf e = ρ.size) (h0 : 0 < ρ.size) (hb : Tryz.prog.bytesOf e = B)
  (hel : ∀ (n : Nat) (x : List Value) (D : DataW H) (Pl : List MemPlace),DataW.trod enc Tryz.prog w0 0 (fun _ => true) true n e x = some (D,Pl) → (∀ m ∈ D.weights Tryz.prog e,m ≤ reachBytes) → ∃ q,ρ.rd w0 0 q x ∧ Q q)
  (h : DataW.trod enc Tryz.prog w0 0 (fun _ => true) true fuel t [v] = some (d,p)) (hB : ∀ n ∈ d.weights Tryz.prog t,n ≤ reachBytes) :
  ∃ l,RdL w0 0 v l ∧ l.length * B ≤ reachBytes ∧ ∀ q ∈ l,Q q := by
 obtain ⟨es,hr,hl,hi⟩ := open_rd ht hsz h0 h hB
 obtain ⟨l,ha,hq⟩ := all2_of (R := ρ.rd w0 0) (Q := Q) fun i x hx => by
  obtain ⟨D,Pl,n,h1,h2⟩ := hi i x hx
  exact hel n x D Pl h1 h2
 rw [hb,ha.length] at hl
 exact ⟨l,⟨es,hr,ha⟩,hl,hq⟩
theorem open_int1 {n : Nat} {x : List Value} {D : DataW H} {Pl : List MemPlace} (h : DataW.trod enc Tryz.prog w0 0 (fun _ => true) true n 3 x = some (D,Pl)) : ∃ k : Int,x = [.int .i64 k] ∧ I64 k := by
 obtain ⟨k,rfl,_,hwf⟩ := DataW.trod_int Tryz.underlying3 h
 have hwf' : -9223372036854775808 ≤ k ∧ k ≤ 9223372036854775807 := by simpa [Lit.wf,IntKind.min,IntKind.max,IntKind.signed,IntKind.bits] using hwf
 exact ⟨k,rfl,hwf'⟩
theorem open_ints {fuel : Nat} {v : Value} {d : DataW H} {p : List MemPlace} (h : DataW.trod enc Tryz.prog w0 0 (fun _ => true) true fuel 29 [v] = some (d,p)) (hB : ∀ n ∈ d.weights Tryz.prog 29,n ≤ reachBytes) :
  ∃ l : List Int,RdL w0 0 v l ∧ l.length * 8 ≤ reachBytes := by
 obtain ⟨l,h1,h2,_⟩ := open_list (α := Int) (B := 8) (fun _ => True) Tryz.underlying29 (show Tryz.prog.cellsOf 3 = 1 by kernel_rfl) (by decide) (by kernel_rfl) (fun n x D Pl hx _ => by
  obtain ⟨k,rfl,_⟩ := open_int1 hx
  exact ⟨k,rfl,trivial⟩) h hB
 exact ⟨l,h1,h2⟩
theorem open_bytes {fuel : Nat} {v : Value} {d : DataW H} {p : List MemPlace} (h : DataW.trod enc Tryz.prog w0 0 (fun _ => true) true fuel 22 [v] = some (d,p)) (hB : ∀ n ∈ d.weights Tryz.prog 22,n ≤ reachBytes) :
  ∃ l : List Bt,RdL w0 0 v l ∧ l.length * 1 ≤ reachBytes := by
 obtain ⟨l,h1,h2,_⟩ := open_list (α := Bt) (B := 1) (fun _ => True) Tryz.underlying22 (show Tryz.prog.cellsOf 5 = 1 by kernel_rfl) (by decide) (by kernel_rfl) (fun n x D Pl hx _ => by
  obtain ⟨k,rfl,_,hwf⟩ := DataW.trod_int Tryz.underlying5 hx
  have hwf' : 0 ≤ k ∧ k ≤ 255 := by simpa [Lit.wf,IntKind.min,IntKind.max,IntKind.signed,IntKind.bits] using hwf
  refine ⟨⟨k.toNat,by omega⟩,?_,trivial⟩
  show [Value.int .u8 k] = [Value.int .u8 (k.toNat : Int)]
  rw [Int.toNat_of_nonneg hwf'.1]) h hB
 exact ⟨l,h1,h2⟩
theorem open_write {n : Nat} {x : List Value} {D : DataW H} {Pl : List MemPlace} (h : DataW.trod enc Tryz.prog w0 0 (fun _ => true) true n 100 x = some (D,Pl)) (hB : ∀ m ∈ D.weights Tryz.prog 100,m ≤ reachBytes) :
  ∃ q : Wr,Rep.rd w0 0 q x ∧ q.data.length ≤ 140737488355328 := by
 obtain ⟨y0,y1,n,hd,hl,h0,h1⟩ := trod_struct2 Tryz.underlying100 h
 simp only [Prod.mk.injEq] at hd
 obtain ⟨rfl,rfl⟩ := hd
 rw [show Tryz.prog.cellsOf 100 = 2 by kernel_rfl] at hl
 obtain ⟨c0,c1,rfl⟩ : ∃ c0 c1,x = [c0,c1] := by
  match x,hl with
  | [c0,c1],_ => exact ⟨c0,c1,rfl⟩
 have h0' : DataW.trod enc Tryz.prog w0 0 (fun _ => true) true n 3 (([c0,c1].drop 0).take (Tryz.prog.cellsOf 3)) = some y0 := h0
 have h1' : DataW.trod enc Tryz.prog w0 0 (fun _ => true) true n 22 (([c0,c1].drop 1).take (Tryz.prog.cellsOf 22)) = some y1 := h1
 rw [show Tryz.prog.cellsOf 3 = 1 by kernel_rfl] at h0'
 rw [show Tryz.prog.cellsOf 22 = 1 by kernel_rfl] at h1'
 obtain ⟨s,hs,_⟩ := open_int1 (D := y0.1) (Pl := y0.2) h0'
 simp only [List.drop_zero,List.take_succ_cons,List.take_zero,List.cons.injEq,and_true] at hs
 subst hs
 obtain ⟨l,hr,hll⟩ := open_bytes (d := y1.1) (p := y1.2) h1' (fun m hm => hB m (by
  simp only [DataW.weights,Tryz.underlying100]
  exact DataW.weights_mem_each (j := 1) (t := 22) rfl rfl m hm))
 obtain ⟨a,c,rfl⟩ := hr.shape
 exact ⟨⟨s,l⟩,⟨a,c,rfl,hr⟩,by show l.length ≤ _; have := reachBytes_lt; omega⟩
theorem open_writes {fuel : Nat} {v : Value} {d : DataW H} {p : List MemPlace} (h : DataW.trod enc Tryz.prog w0 0 (fun _ => true) true fuel 47 [v] = some (d,p)) (hB : ∀ n ∈ d.weights Tryz.prog 47,n ≤ reachBytes) :
  ∃ l : List Wr,RdL w0 0 v l ∧ l.length * 32 ≤ reachBytes ∧ ∀ w ∈ l,w.data.length ≤ 140737488355328 :=
 open_list (α := Wr) (B := 32) (fun w => w.data.length ≤ 140737488355328) Tryz.underlying47 (show Tryz.prog.cellsOf 100 = 2 by kernel_rfl) (by decide) (by kernel_rfl) (fun n x D Pl hx hw => open_write hx hw) h hB
theorem open_op {fuel : Nat} {x : List Value} {D : DataW H} {Pl : List MemPlace} (h : DataW.trod enc Tryz.prog w0 0 (fun _ => true) true fuel 49 x = some (D,Pl)) (hB : ∀ m ∈ D.weights Tryz.prog 49,m ≤ reachBytes) :
  ∃ q : Opn,Rep.rd w0 0 q x ∧ LenO q ∧ NumsIn q := by
 obtain ⟨xs,n,_,hd,hl,hlen,hf⟩ := DataW.trod_struct Tryz.underlying49 h
 have hlen' : xs.length = 17 := hlen
 clear hlen
 obtain ⟨y0,y1,y2,y3,y4,y5,y6,y7,y8,y9,y10,y11,y12,y13,y14,y15,y16,rfl⟩ : ∃ y0 y1 y2 y3 y4 y5 y6 y7 y8 y9 y10 y11 y12 y13 y14 y15 y16,xs = [y0,y1,y2,y3,y4,y5,y6,y7,y8,y9,y10,y11,y12,y13,y14,y15,y16] := by
  match xs,hlen' with
  | [y0,y1,y2,y3,y4,y5,y6,y7,y8,y9,y10,y11,y12,y13,y14,y15,y16],_ => exact ⟨y0,y1,y2,y3,y4,y5,y6,y7,y8,y9,y10,y11,y12,y13,y14,y15,y16,rfl⟩
 simp only [Prod.mk.injEq,List.map_cons,List.map_nil] at hd
 obtain ⟨rfl,_⟩ := hd
 rw [show Tryz.prog.cellsOf 49 = 17 by kernel_rfl] at hl
 obtain ⟨c0,c1,c2,c3,c4,c5,c6,c7,c8,c9,c10,c11,c12,c13,c14,c15,c16,rfl⟩ : ∃ c0 c1 c2 c3 c4 c5 c6 c7 c8 c9 c10 c11 c12 c13 c14 c15 c16,x = [c0,c1,c2,c3,c4,c5,c6,c7,c8,c9,c10,c11,c12,c13,c14,c15,c16] := by
  match x,hl with
  | [c0,c1,c2,c3,c4,c5,c6,c7,c8,c9,c10,c11,c12,c13,c14,c15,c16],_ => exact ⟨c0,c1,c2,c3,c4,c5,c6,c7,c8,c9,c10,c11,c12,c13,c14,c15,c16,rfl⟩
 have h0 : DataW.trod enc Tryz.prog w0 0 (fun _ => true) true n 3 (([c0,c1,c2,c3,c4,c5,c6,c7,c8,c9,c10,c11,c12,c13,c14,c15,c16].drop 0).take (Tryz.prog.cellsOf 3)) = some y0 := hf 0 _ rfl
 rw [show Tryz.prog.cellsOf 3 = 1 by kernel_rfl] at h0
 obtain ⟨n0,e0,u0⟩ := open_int1 (D := y0.1) (Pl := y0.2) h0
 simp only [List.drop_zero,List.drop_succ_cons,List.take_succ_cons,List.take_zero,List.cons.injEq,and_true] at e0
 have h1 : DataW.trod enc Tryz.prog w0 0 (fun _ => true) true n 3 (([c0,c1,c2,c3,c4,c5,c6,c7,c8,c9,c10,c11,c12,c13,c14,c15,c16].drop 1).take (Tryz.prog.cellsOf 3)) = some y1 := hf 1 _ rfl
 rw [show Tryz.prog.cellsOf 3 = 1 by kernel_rfl] at h1
 obtain ⟨n1,e1,u1⟩ := open_int1 (D := y1.1) (Pl := y1.2) h1
 simp only [List.drop_zero,List.drop_succ_cons,List.take_succ_cons,List.take_zero,List.cons.injEq,and_true] at e1
 have h2 : DataW.trod enc Tryz.prog w0 0 (fun _ => true) true n 3 (([c0,c1,c2,c3,c4,c5,c6,c7,c8,c9,c10,c11,c12,c13,c14,c15,c16].drop 2).take (Tryz.prog.cellsOf 3)) = some y2 := hf 2 _ rfl
 rw [show Tryz.prog.cellsOf 3 = 1 by kernel_rfl] at h2
 obtain ⟨n2,e2,u2⟩ := open_int1 (D := y2.1) (Pl := y2.2) h2
 simp only [List.drop_zero,List.drop_succ_cons,List.take_succ_cons,List.take_zero,List.cons.injEq,and_true] at e2
 have h3 : DataW.trod enc Tryz.prog w0 0 (fun _ => true) true n 3 (([c0,c1,c2,c3,c4,c5,c6,c7,c8,c9,c10,c11,c12,c13,c14,c15,c16].drop 3).take (Tryz.prog.cellsOf 3)) = some y3 := hf 3 _ rfl
 rw [show Tryz.prog.cellsOf 3 = 1 by kernel_rfl] at h3
 obtain ⟨n3,e3,u3⟩ := open_int1 (D := y3.1) (Pl := y3.2) h3
 simp only [List.drop_zero,List.drop_succ_cons,List.take_succ_cons,List.take_zero,List.cons.injEq,and_true] at e3
 have h4 : DataW.trod enc Tryz.prog w0 0 (fun _ => true) true n 3 (([c0,c1,c2,c3,c4,c5,c6,c7,c8,c9,c10,c11,c12,c13,c14,c15,c16].drop 4).take (Tryz.prog.cellsOf 3)) = some y4 := hf 4 _ rfl
 rw [show Tryz.prog.cellsOf 3 = 1 by kernel_rfl] at h4
 obtain ⟨n4,e4,u4⟩ := open_int1 (D := y4.1) (Pl := y4.2) h4
 simp only [List.drop_zero,List.drop_succ_cons,List.take_succ_cons,List.take_zero,List.cons.injEq,and_true] at e4
 have h5 : DataW.trod enc Tryz.prog w0 0 (fun _ => true) true n 3 (([c0,c1,c2,c3,c4,c5,c6,c7,c8,c9,c10,c11,c12,c13,c14,c15,c16].drop 5).take (Tryz.prog.cellsOf 3)) = some y5 := hf 5 _ rfl
 rw [show Tryz.prog.cellsOf 3 = 1 by kernel_rfl] at h5
 obtain ⟨n5,e5,u5⟩ := open_int1 (D := y5.1) (Pl := y5.2) h5
 simp only [List.drop_zero,List.drop_succ_cons,List.take_succ_cons,List.take_zero,List.cons.injEq,and_true] at e5
 have h6 : DataW.trod enc Tryz.prog w0 0 (fun _ => true) true n 3 (([c0,c1,c2,c3,c4,c5,c6,c7,c8,c9,c10,c11,c12,c13,c14,c15,c16].drop 6).take (Tryz.prog.cellsOf 3)) = some y6 := hf 6 _ rfl
 rw [show Tryz.prog.cellsOf 3 = 1 by kernel_rfl] at h6
 obtain ⟨n6,e6,u6⟩ := open_int1 (D := y6.1) (Pl := y6.2) h6
 simp only [List.drop_zero,List.drop_succ_cons,List.take_succ_cons,List.take_zero,List.cons.injEq,and_true] at e6
 have h7 : DataW.trod enc Tryz.prog w0 0 (fun _ => true) true n 3 (([c0,c1,c2,c3,c4,c5,c6,c7,c8,c9,c10,c11,c12,c13,c14,c15,c16].drop 7).take (Tryz.prog.cellsOf 3)) = some y7 := hf 7 _ rfl
 rw [show Tryz.prog.cellsOf 3 = 1 by kernel_rfl] at h7
 obtain ⟨n7,e7,u7⟩ := open_int1 (D := y7.1) (Pl := y7.2) h7
 simp only [List.drop_zero,List.drop_succ_cons,List.take_succ_cons,List.take_zero,List.cons.injEq,and_true] at e7
 have h8 : DataW.trod enc Tryz.prog w0 0 (fun _ => true) true n 3 (([c0,c1,c2,c3,c4,c5,c6,c7,c8,c9,c10,c11,c12,c13,c14,c15,c16].drop 8).take (Tryz.prog.cellsOf 3)) = some y8 := hf 8 _ rfl
 rw [show Tryz.prog.cellsOf 3 = 1 by kernel_rfl] at h8
 obtain ⟨n8,e8,u8⟩ := open_int1 (D := y8.1) (Pl := y8.2) h8
 simp only [List.drop_zero,List.drop_succ_cons,List.take_succ_cons,List.take_zero,List.cons.injEq,and_true] at e8
 have h9 : DataW.trod enc Tryz.prog w0 0 (fun _ => true) true n 3 (([c0,c1,c2,c3,c4,c5,c6,c7,c8,c9,c10,c11,c12,c13,c14,c15,c16].drop 9).take (Tryz.prog.cellsOf 3)) = some y9 := hf 9 _ rfl
 rw [show Tryz.prog.cellsOf 3 = 1 by kernel_rfl] at h9
 obtain ⟨n9,e9,u9⟩ := open_int1 (D := y9.1) (Pl := y9.2) h9
 simp only [List.drop_zero,List.drop_succ_cons,List.take_succ_cons,List.take_zero,List.cons.injEq,and_true] at e9
 have h10 : DataW.trod enc Tryz.prog w0 0 (fun _ => true) true n 3 (([c0,c1,c2,c3,c4,c5,c6,c7,c8,c9,c10,c11,c12,c13,c14,c15,c16].drop 10).take (Tryz.prog.cellsOf 3)) = some y10 := hf 10 _ rfl
 rw [show Tryz.prog.cellsOf 3 = 1 by kernel_rfl] at h10
 obtain ⟨n10,e10,u10⟩ := open_int1 (D := y10.1) (Pl := y10.2) h10
 simp only [List.drop_zero,List.drop_succ_cons,List.take_succ_cons,List.take_zero,List.cons.injEq,and_true] at e10
 have h11 : DataW.trod enc Tryz.prog w0 0 (fun _ => true) true n 3 (([c0,c1,c2,c3,c4,c5,c6,c7,c8,c9,c10,c11,c12,c13,c14,c15,c16].drop 11).take (Tryz.prog.cellsOf 3)) = some y11 := hf 11 _ rfl
 rw [show Tryz.prog.cellsOf 3 = 1 by kernel_rfl] at h11
 obtain ⟨n11,e11,u11⟩ := open_int1 (D := y11.1) (Pl := y11.2) h11
 simp only [List.drop_zero,List.drop_succ_cons,List.take_succ_cons,List.take_zero,List.cons.injEq,and_true] at e11
 have h12 : DataW.trod enc Tryz.prog w0 0 (fun _ => true) true n 3 (([c0,c1,c2,c3,c4,c5,c6,c7,c8,c9,c10,c11,c12,c13,c14,c15,c16].drop 12).take (Tryz.prog.cellsOf 3)) = some y12 := hf 12 _ rfl
 rw [show Tryz.prog.cellsOf 3 = 1 by kernel_rfl] at h12
 obtain ⟨n12,e12,u12⟩ := open_int1 (D := y12.1) (Pl := y12.2) h12
 simp only [List.drop_zero,List.drop_succ_cons,List.take_succ_cons,List.take_zero,List.cons.injEq,and_true] at e12
 have h13 : DataW.trod enc Tryz.prog w0 0 (fun _ => true) true n 29 (([c0,c1,c2,c3,c4,c5,c6,c7,c8,c9,c10,c11,c12,c13,c14,c15,c16].drop 13).take (Tryz.prog.cellsOf 29)) = some y13 := hf 13 _ rfl
 rw [show Tryz.prog.cellsOf 29 = 1 by kernel_rfl] at h13
 obtain ⟨l13,r13,z13⟩ := open_ints (d := y13.1) (p := y13.2) h13 (fun m hm => hB m (by
  simp only [DataW.weights,Tryz.underlying49]
  exact DataW.weights_mem_each (j := 13) (t := 29) rfl rfl m hm))
 have h14 : DataW.trod enc Tryz.prog w0 0 (fun _ => true) true n 29 (([c0,c1,c2,c3,c4,c5,c6,c7,c8,c9,c10,c11,c12,c13,c14,c15,c16].drop 14).take (Tryz.prog.cellsOf 29)) = some y14 := hf 14 _ rfl
 rw [show Tryz.prog.cellsOf 29 = 1 by kernel_rfl] at h14
 obtain ⟨l14,r14,z14⟩ := open_ints (d := y14.1) (p := y14.2) h14 (fun m hm => hB m (by
  simp only [DataW.weights,Tryz.underlying49]
  exact DataW.weights_mem_each (j := 14) (t := 29) rfl rfl m hm))
 have h15 : DataW.trod enc Tryz.prog w0 0 (fun _ => true) true n 47 (([c0,c1,c2,c3,c4,c5,c6,c7,c8,c9,c10,c11,c12,c13,c14,c15,c16].drop 15).take (Tryz.prog.cellsOf 47)) = some y15 := hf 15 _ rfl
 rw [show Tryz.prog.cellsOf 47 = 1 by kernel_rfl] at h15
 obtain ⟨l15,r15,z15,q15⟩ := open_writes (d := y15.1) (p := y15.2) h15 (fun m hm => hB m (by
  simp only [DataW.weights,Tryz.underlying49]
  exact DataW.weights_mem_each (j := 15) (t := 47) rfl rfl m hm))
 have h16 : DataW.trod enc Tryz.prog w0 0 (fun _ => true) true n 22 (([c0,c1,c2,c3,c4,c5,c6,c7,c8,c9,c10,c11,c12,c13,c14,c15,c16].drop 16).take (Tryz.prog.cellsOf 22)) = some y16 := hf 16 _ rfl
 rw [show Tryz.prog.cellsOf 22 = 1 by kernel_rfl] at h16
 obtain ⟨l16,r16,z16⟩ := open_bytes (d := y16.1) (p := y16.2) h16 (fun m hm => hB m (by
  simp only [DataW.weights,Tryz.underlying49]
  exact DataW.weights_mem_each (j := 16) (t := 22) rfl rfl m hm))
 subst e0 e1 e2 e3 e4 e5 e6 e7 e8 e9 e10 e11 e12
 obtain ⟨a13,s13,rfl⟩ := r13.shape
 obtain ⟨a14,s14,rfl⟩ := r14.shape
 obtain ⟨a15,s15,rfl⟩ := r15.shape
 obtain ⟨a16,s16,rfl⟩ := r16.shape
 have := reachBytes_lt
 exact ⟨⟨n0,n1,n2,n3,n4,n5,n6,n7,n8,n9,n10,n11,n12,l13,l14,l15,l16⟩,⟨a13,s13,a14,s14,a15,s15,a16,s16,rfl,r13,r14,r15,r16⟩,⟨by show l13.length ≤ _; omega,by show l14.length ≤ _; omega,by show l15.length ≤ _; omega,by show l16.length ≤ _; omega,q15⟩,u1,u2,u3,u4,u5,u6,u7,u8,u9,u10,u11,u12⟩
theorem open_ops {fuel : Nat} {v : Value} {d : DataW H} {p : List MemPlace} (h : DataW.trod enc Tryz.prog w0 0 (fun _ => true) true fuel 43 [v] = some (d,p)) (hB : ∀ n ∈ d.weights Tryz.prog 43,n ≤ reachBytes) :
  ∃ l : List Opn,RdL w0 0 v l ∧ l.length * 200 ≤ reachBytes ∧ ∀ o ∈ l,LenO o ∧ NumsIn o :=
 open_list (α := Opn) (B := 200) (fun o => LenO o ∧ NumsIn o) Tryz.underlying43 (show Tryz.prog.cellsOf 49 = 17 by kernel_rfl) (by decide) (by kernel_rfl) (fun n x D Pl hx hw => open_op hx hw) h hB
end
end Go.Proofs.YtpkealohodeifaaGreat.shIn
namespace Go.Proofs.YtpkealohodeifaaGreat.shardKept
open Sl shIn
open Go.ChangeShapes Go.WideShapes Go.ChangeAt Go.RowKit Go.Deep
theorem walk (w : World) (n0 : Int) (n1 : Int) (n2 : Int) (v3 : Value) (l3 : List Opn) (r3 : RdL w 0 v3 l3) (b3 : l3.length ≤ 17592186044416) (q3 : ∀ o ∈ l3,LenO o) (s3 : ∀ o ∈ l3,NumsIn o) :
  Calls Tryz.prog 8 #[.int .i64 n0,.int .i64 n1,.int .i64 n2,v3] w fun e w' => e = .returned (.bool true) ∧ Below w.heap.size w w' := by
 have h := shardKept_spec w n0 n1 n2 v3 l3 r3 b3 q3 s3 w 0 (by rw [hzero_add]; exact St.start w)
 refine h.mono ?_
 rintro e w' ⟨v,h',rfl,⟨rfl,rfl⟩,hst⟩
 exact ⟨rfl,hst.below⟩
set_option maxRecDepth 100000 in
theorem lifted (os : Os) (started : os.Started) (H : Type) (enc : TypeId × Value → H) :
  ReturnsInHanded {} Tryz.checked os 8 .any (Rows.shardKeptSpec.pre6 enc Tryz.prog Tryz.f8 Rows.shardKeptRow.domain false) (Rows.shardKeptSpec.post enc Tryz.prog Tryz.f8 false true false false) := by
 refine returnsInHanded_of_change_sized (C := Tryz.checked) own started (by kernel_rfl) Tryz.func8
  (ChangeSpec.witness6 (enc := enc) (C := Tryz.checked) false ⟨#[],#[.int .i64 0,.int .i64 0,.int .i64 0,.slice none 0 0],[]⟩ 8 (by kernel_rfl) (by kernel_rfl) (by kernel_rfl) (by kernel_rfl)) ?_
 intro W base args ds gs before hval0 hW hcnd hsz0 _
 have hsz : (DataW.weightsEach Tryz.prog (Tryz.f8.params.toList ++ Rows.shardKeptSpec.plain.varTypes Tryz.prog) (ds ++ gs)).all (· ≤ reachBytes) = true := hsz0
 clear hsz0
 have hval : ∀ (j : Nat) t v,Tryz.f8.params[j]? = some t → args[j]? = some v → Value.okWide Tryz.prog W .any base t v := hval0
 have hW' := hW
 obtain ⟨p,q,hA0,hV,rfl,hfz,hnd⟩ := hW
 have hA : DataW.TrodAll enc Tryz.prog W 0 (fun _ => true) true Tryz.f8.params.toList args.toList ds p := hA0
 rw [Tryz.params8] at hA hval
 obtain ⟨v0,vs0,d0,ds0,p0,q0,hargs,rfl,rfl,h0,r0⟩ := trodAll_cons hA
 obtain ⟨v1,vs1,d1,ds1,p1,q1,rfl,rfl,rfl,h1,r1⟩ := trodAll_cons r0
 obtain ⟨v2,vs2,d2,ds2,p2,q2,rfl,rfl,rfl,h2,r2⟩ := trodAll_cons r1
 obtain ⟨v3,vs3,d3,ds3,p3,q3,rfl,rfl,rfl,h3,r3⟩ := trodAll_cons r2
 obtain ⟨rfl,rfl,rfl⟩ := trodAll_nil r3
 obtain rfl : args = #[v0,v1,v2,v3] := by cases args; simp_all
 obtain ⟨rfl,rfl⟩ := trodVars_none hV
 have k0 := h0
 have lt0 : ∀ x ∈ p0,x.block < W.heap.size := by obtain ⟨m,hm⟩ := k0; exact DataW.trod_lt m _ _ _ hm
 obtain ⟨n0,rfl⟩ := okWide_int Tryz.underlying3 (hval 0 3 v0 rfl rfl)
 have k1 := h1
 have lt1 : ∀ x ∈ p1,x.block < W.heap.size := by obtain ⟨m,hm⟩ := k1; exact DataW.trod_lt m _ _ _ hm
 obtain ⟨n1,rfl⟩ := okWide_int Tryz.underlying3 (hval 1 3 v1 rfl rfl)
 have k2 := h2
 have lt2 : ∀ x ∈ p2,x.block < W.heap.size := by obtain ⟨m,hm⟩ := k2; exact DataW.trod_lt m _ _ _ hm
 obtain ⟨n2,rfl⟩ := okWide_int Tryz.underlying3 (hval 2 3 v2 rfl rfl)
 have k3 := h3
 have lt3 : ∀ x ∈ p3,x.block < W.heap.size := by obtain ⟨m,hm⟩ := k3; exact DataW.trod_lt m _ _ _ hm
 obtain ⟨a3,len3,cap3,rfl⟩ := okWide_slice Tryz.underlying43 (hval 3 43 v3 rfl rfl)
 obtain ⟨l3,w3,z3,y3⟩ : ∃ l,RdL W 0 (.slice a3 len3 cap3) l ∧ l.length * 200 ≤ reachBytes ∧ ∀ o ∈ l,LenO o ∧ NumsIn o := by
  obtain ⟨fuel,hf⟩ := h3
  exact open_ops hf (fun m hm => by simpa using List.all_eq_true.1 hsz m (DataW.weights_mem_each (j := 3) (t := 43) rfl rfl m hm))
 clear hA0 hval0 hsz
 refine (walk W n0 n1 n2 _ l3 w3 (by have := reachBytes_lt; omega) (fun o ho => (y3 o ho).1) (fun o ho => (y3 o ho).2)).mono fun e W' ⟨he,bel⟩ => ?_
 subst he
 exact ⟨_,rfl,_,_,_,[],_,[],hW',trodAll_mk1 (shut_bool Tryz.underlying4 _),(trodAll_cons_mk (Below.trod laidOut (by kernel_rfl) (of_decide_eq_true (by kernel_rfl)) k0 bel lt0) (trodAll_cons_mk (Below.trod laidOut (by kernel_rfl) (of_decide_eq_true (by kernel_rfl)) k1 bel lt1) (trodAll_cons_mk (Below.trod laidOut (by kernel_rfl) (of_decide_eq_true (by kernel_rfl)) k2 bel lt2) (trodAll_cons_mk (Below.trod laidOut (by kernel_rfl) (of_decide_eq_true (by kernel_rfl)) k3 bel lt3) trodAll_mk0)))),rfl,bel.frame _,fun h => by cases h⟩
theorem over : Rows.shardKeptRow.holds Tryz.pinned (OpenSpec.ofChange Rows.shardKeptSpec) :=
 OpenClaim.holds_of_wide 8 Tryz.f8 rfl rfl rfl rfl rfl rfl rfl ⟨rfl,rfl,rfl,rfl,rfl⟩ rfl rfl rfl rfl rfl (by kernel_rfl) Tryz.func8 (by kernel_rfl)
  (of_decide_eq_true (by kernel_rfl)) (by unfold Func.isWrapper; first | (rw [if_pos (by decide +kernel)]; kernel_rfl) | (rw [if_neg (by decide +kernel)]; exact ⟨rfl,rfl⟩))
  (fun os started H enc _ => lifted os started H enc)
theorem proved : Rows.ShardKeptSaid := over
end Go.Proofs.YtpkealohodeifaaGreat.shardKept
