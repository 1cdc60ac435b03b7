/-
  What shardMoved.proved hangs on, part 5 of 7: ShY, ShZ, ShPa, ShSo, LkOf, ShMo, ShIa, Dfr, ShPc, ShPe, ShPb, ShPf, ShSq.
-/
import Derived.Test.YtpkealohodeifaaGreatMo4
import Derived.Test.YtpkealohodeifaaGreatMo1
import Derived.Defers
set_option linter.unusedVariables false
set_option linter.unusedSimpArgs false
namespace Go.Proofs.YtpkealohodeifaaGreat
open Go Go.RowKit
namespace Sl
set_option maxHeartbeats 8000000
set_option maxRecDepth 4000
set_option synthInstance.maxHeartbeats 400000
set_option synthInstance.maxSize 100000
attribute [local irreducible] Hold HoldL HoldW
def ShAt (w0 : World) (X : Hp) (b : Nat) (s : Shd) (h : Hp) : Prop := ∃ a1 c1 a2 c2 a3 c3 a4 c4 a5 c5 a6 c6 a7 c7 h1 h2 h3 h4 h5 h6 h7,
 OwL w0 X s.blocks (.slice a1 s.blocks.length c1) h1 ∧ OwL w0 X s.kept (.slice a2 s.kept.length c2) h2 ∧ OwL w0 0 s.locks (.slice a3 s.locks.length c3) h3 ∧ OwL w0 X s.preps (.slice a4 s.preps.length c4) h4 ∧ OwL w0 0 s.dead (.slice a5 s.dead.length c5) h5 ∧ OwL w0 X s.outs (.slice a6 s.outs.length c6) h6 ∧ OwL w0 X s.sess (.slice a7 s.sess.length c7) h7 ∧
 h = stC b (cellsS s (.slice a1 s.blocks.length c1) (.slice a2 s.kept.length c2) (.slice a3 s.locks.length c3) (.slice a4 s.preps.length c4) (.slice a5 s.dead.length c5) (.slice a6 s.outs.length c6) (.slice a7 s.sess.length c7)) + h1 + h2 + h3 + h4 + h5 + h6 + h7
def OwR (w0 : World) (r : Res) (v : Value) (h : Hp) : Prop := ∃ a c,v = .agg [.int .i64 r.code,.slice a r.data.length c].toArray ∧ OwL w0 0 r.data (.slice a r.data.length c) h
theorem OwR.code (w0 : World) (n : Int) : OwR w0 ⟨n,[]⟩ (.agg [.int .i64 n,.slice none 0 0].toArray) 0 := ⟨none,0,rfl,OwL.nil _ _⟩
def endS (s : Shd) (t : Int) : Shd := { s with locks := withoutL s.locks [t],dead := endD s.dead [t] }
def forgetS (s : Shd) (t : Int) : Shd := { s with dead := s.dead.filter fun x => !eldF t x }
def tkS (s : Shd) (k : Lk) : Shd × Int := ({ s with locks := (lockS s.locks s.dead k (s.preps.map Prp.txn)).1,dead := (lockS s.locks s.dead k (s.preps.map Prp.txn)).2.1 },(lockS s.locks s.dead k (s.preps.map Prp.txn)).2.2)
def isPrep (s : Shd) (t : Int) : Bool := s.preps.any (isTx t)
def inR (s : Shd) (n : Int) : Bool := decide (s.lo ≤ n ∧ n < s.hi)
def readF (s : Shd) (o : Opn) : Shd × Res :=
 if isPrep s o.txn = true then (s,⟨12,[]⟩) else if o.txn ∈ s.dead then (s,⟨24,[]⟩)
 else if o.epoch ≠ s.epoch ∨ inR s o.block = false then (endS s o.txn,⟨26,[]⟩)
 else ((tkS (forgetS s o.txn) ⟨o.block,o.txn,o.age,false⟩).1,if (tkS (forgetS s o.txn) ⟨o.block,o.txn,o.age,false⟩).2 ≠ 0 then ⟨(tkS (forgetS s o.txn) ⟨o.block,o.txn,o.age,false⟩).2,[]⟩ else ⟨0,getB s.blocks o.block⟩)
theorem isPrep_idx (s : Shd) (t : Int) : isPrep s t = decide (0 ≤ idxF (isTx t) s.preps) := (idxF_nonneg _ _).symm
theorem filter_len {α : Type} (p : α → Bool) (l : List α) : (l.filter p).length ≤ l.length := List.length_filter_le _ _
structure Sized (s : Shd) : Prop where
 dead : s.dead.length ≤ 900000
 preps : s.preps.length ≤ 400000
 kept : s.kept.length ≤ 400000
 outs : s.outs.length ≤ 400000
 sess : s.sess.length ≤ 400000
structure Okay (s : Shd) : Prop where
 blocks : OkB s.blocks
 kept : OkK s.kept
 locks : Safe s.locks
 dead : Rises s.dead
 preps : s.preps.Pairwise fun a b => a.txn < b.txn
abbrev opC (b : Nat) (o : Opn) (v1 v2 v3 v4 : Value) : Hp := pt b (.cells (cellsO o v1 v2 v3 v4).toArray 49 (0,0))
abbrev resC (b : Nat) : Hp := pt b (.cells [.int .i64 0,.slice none 0 0].toArray 51 (0,0))
def PostS (w0 : World) (X : Hp) (b : Nat) (a : Shd × Res) (r : Value) (h' : Hp) : Prop := ∃ E h2 hr,OwR w0 a.2 r hr ∧ ShAt w0 (X + E) b a.1 h2 ∧ X + E + h2 + hr = h'
theorem PostS.same {w0 : World} {X h : Hp} {b : Nat} {s : Shd} {n : Int} (hs : ShAt w0 X b s h) : PostS w0 X b (s,⟨n,[]⟩) (.agg [.int .i64 n,.slice none 0 0].toArray) (X + h) :=
 ⟨0,h,0,OwR.code _ _,by rw [yB]; exact hs,by simp only [yB]⟩
theorem PostS.code {w0 : World} {X E h : Hp} {b : Nat} {s : Shd} {n : Int} (hs : ShAt w0 (X + E) b s h) : PostS w0 X b (s,⟨n,[]⟩) (.agg [.int .i64 n,.slice none 0 0].toArray) (X + E + h) :=
 ⟨E,h,0,OwR.code _ _,hs,by simp only [yB]⟩
theorem ShAt.mono {w0 : World} {X L R h : Hp} (e : L = X + R) {b : Nat} {s : Shd} (H : ShAt w0 X b s h) : ShAt w0 L b s h := by
 obtain ⟨a1,c1,a2,c2,a3,c3,a4,c4,a5,c5,a6,c6,a7,c7,h1,h2,h3,h4,h5,h6,h7,o1,o2,o3,o4,o5,o6,o7,rfl⟩ := H
 exact ⟨a1,c1,a2,c2,a3,c3,a4,c4,a5,c5,a6,c6,a7,c7,h1,h2,h3,h4,h5,h6,h7,o1.mono e,o2.mono e,o3,o4.mono e,o5,o6.mono e,o7.mono e,rfl⟩
theorem read22_spec (w0 : World) (X : Hp) (b : Nat) (s : Shd) (h : Hp) (o : Opn) (e : List Value) (hs : ShAt w0 X b s h) (ho : ∃ Y,Rep.rd w0 Y o e) (hz : Sized s) (hk : Okay s) :
  Spec Tryz.prog w0 155 [.pointer (some ⟨b,0,none⟩),.agg e.toArray] (X + h) (PostS w0 X b (readF s o)) := by
 obtain ⟨a1,c1,a2,c2,a3,c3,a4,c4,a5,c5,a6,c6,a7,c7,h1,h2,h3,h4,h5,h6,h7,o1,o2,o3,o4,o5,o6,o7,rfl⟩ := id hs
 obtain ⟨Y,x1,y1,x2,y2,x3,y3,x4,y4,rfl,_,_,_,_⟩ := ho
 have z1 := hk.locks.few
 have z2 := hz.dead
 have z3 := hz.preps
 have hprep := prepared_spec w0 (X + h4) b (.int .i64 s.lo) (.int .i64 s.hi) (.int .i64 s.epoch) (.slice a1 s.blocks.length c1) (.slice a2 s.kept.length c2) (.slice a3 s.locks.length c3) (.slice a4 s.preps.length c4) (.slice a5 s.dead.length c5) (.slice a6 s.outs.length c6) (.slice a7 s.sess.length c7) s.preps o.txn o4.rd0 (by omega)
 have hcon := containsI_spec w0 h5 (.slice a5 s.dead.length c5) s.dead o.txn (rdL_ints.1 o5.rdh) (by omega)
 refine zN Tryz.func155 rfl Tryz.ntmps155 Tryz.results155 rfl fun fr => ?_
 repeat (first | refine zF ?_ | refine zR ?_ | refine zB ?_ | refine zE ?_ | refine zK rfl rfl rfl ?_ | refine zZ rfl rfl rfl rfl rfl ?_ | refine L_ld rfl rfl rfl rfl rfl ?_ | refine L_box rfl (c := [_,_,_,_,_,_,_,_,_,_,_,_,_,_,_,_,_]) rfl rfl rfl (fun _ => ?_) | refine L_alloc (c := [_,_]) rfl rfl rfl (fun _ => ?_))
 rename_i b3 b4
 refine zY rfl rfl (zQ rfl rfl rfl) hprep ?_
 rintro _ _ ⟨rfl,rfl⟩
 skip
 refine yG rfl rfl (pv_geq rfl rfl) (fun n1 => ?_) (fun n1 => ?_)
 ·have e1 : isPrep s o.txn = true := by rw [isPrep_idx]; exact decide_eq_true n1
  repeat (first | refine zF ?_ | refine zB ?_ | refine zE ?_ | refine zK rfl rfl rfl ?_ | refine zJ rfl ?_)
  refine zY rfl rfl (zQ rfl rfl rfl) (code22_spec w0 12) ?_
  rintro _ _ ⟨rfl,rfl⟩
  repeat (first | refine zE ?_ | refine zM ?_ | refine L_stA rfl (vs := [_,_]) rfl rfl rfl rfl (c' := [_,_]) rfl rfl ?_)
  rw [show readF s o = (s,⟨12,[]⟩) by unfold readF; rw [if_pos e1]]
  exact ⟨[_],_,_,⟨⟨_,rfl,zL rfl rfl rfl⟩,trivial⟩,PostS.same hs,yK.out⟩
 ·have e1 : ¬ isPrep s o.txn = true := by rw [isPrep_idx]; simpa using n1
  repeat (first | refine zF ?_ | refine zE ?_ | refine zK rfl rfl rfl ?_ | refine zI rfl ?_)
  refine yC [7] [0,1,2,3,4,5,6,7,8] (by kernel_rfl) rfl (by kernel_rfl) (by kernel_rfl) ?_
  repeat (first | refine yI rfl rfl rfl rfl rfl ?_ | refine yE rfl rfl rfl rfl (yA rfl rfl rfl) ?_ | refine W_load rfl rfl rfl rfl (yF rfl) (zG rfl (zS rfl)) ?_)
  refine W_call rfl rfl rfl rfl (zQ rfl rfl rfl) hcon (Kept.all _) ?_
  rintro _ _ ⟨rfl,rfl⟩
  refine ⟨(by repeat (first | exact trivial | exact zG rfl (zS rfl) | exact zL rfl rfl rfl | exact zX rfl (by assumption) rfl | exact zH rfl (by assumption) rfl | exact zH rfl (by assumption) (by assumption) | refine ⟨?_,?_⟩)),?_⟩
  repeat (first | refine yJ ?_ | refine yI rfl rfl rfl rfl rfl ?_)
  refine hold_cond_d rfl (fun n2 => ?_) (fun n2 => ?_)
  ·repeat (first | refine zF ?_ | refine zB ?_)
   refine zY rfl rfl (zQ rfl rfl rfl) (code22_spec w0 24) ?_
   rintro _ _ ⟨rfl,rfl⟩
   repeat (first | refine zE ?_ | refine zM ?_ | refine L_stA rfl (vs := [_,_]) rfl rfl rfl rfl (c' := [_,_]) rfl rfl ?_)
   rw [show readF s o = (s,⟨24,[]⟩) by unfold readF; rw [if_neg e1,if_pos n2]]
   exact ⟨[_],_,_,⟨⟨_,rfl,zL rfl rfl rfl⟩,trivial⟩,PostS.same hs,yK.out⟩
  ·repeat (refine zF ?_)
   refine hold_join (fun g' L' => ∃ (R : Hp),Sub g' [(0,.pointer (some ⟨b,0,none⟩)),(3,.pointer (some ⟨b3,0,none⟩)),(4,.pointer (some ⟨b4,0,none⟩)),(23,.bool (decide (o.epoch ≠ s.epoch ∨ inR s o.block = false)))] ∧
    L' = X + (stC b (cellsS s (.slice a1 s.blocks.length c1) (.slice a2 s.kept.length c2) (.slice a3 s.locks.length c3) (.slice a4 s.preps.length c4) (.slice a5 s.dead.length c5) (.slice a6 s.outs.length c6) (.slice a7 s.sess.length c7)) + h1 + h2 + h3 + h4 + h5 + h6 + h7) +
     opC b3 o (.slice x1 o.parts.length y1) (.slice x2 o.reads.length y2) (.slice x3 o.writes.length y3) (.slice x4 o.data.length y4) + resC b4 + fr + R) ?_ ?_
   ·refine yC [12] [0,1,2,3,4,5,6,7,8,9,10,11,12,13,14,15] (by kernel_rfl) rfl (by kernel_rfl) (by kernel_rfl) ?_
    repeat (first | refine yI rfl rfl rfl rfl rfl ?_ | refine yE rfl rfl rfl rfl (yA rfl rfl rfl) ?_ | refine W_load rfl rfl rfl rfl (yF rfl) (zG rfl (zS rfl)) ?_)
    refine W_bool rfl rfl rfl rfl (pv_neq rfl rfl) (fun n3 => ?_) (fun n3 => ?_)
    ·repeat (first | refine yJ ?_ | refine yI rfl rfl rfl rfl rfl ?_ | refine W_skip rfl rfl rfl rfl ?_ | refine W_not rfl rfl rfl rfl ?_)
     rw [decide_eq_true (.inl (of_decide_eq_true n3))]
     exact ⟨_,(by repeat (first | exact zT _ | refine zO rfl ?_)),yK.out⟩
    ·repeat (first | refine yI rfl rfl rfl rfl rfl ?_ | refine yE rfl rfl rfl rfl (yA rfl rfl rfl) ?_ | refine W_load rfl rfl rfl rfl (yF rfl) (zG rfl (zS rfl)) ?_)
     refine W_call rfl rfl rfl rfl (zQ rfl rfl rfl) (hasB_spec w0 b (.int .i64 s.epoch) (.slice a1 s.blocks.length c1) (.slice a2 s.kept.length c2) (.slice a3 s.locks.length c3) (.slice a4 s.preps.length c4) (.slice a5 s.dead.length c5) (.slice a6 s.outs.length c6) (.slice a7 s.sess.length c7) s.lo s.hi o.block) (Kept.all _) ?_
     rintro _ _ ⟨rfl,rfl⟩
     refine ⟨(by repeat (first | exact trivial | exact zG rfl (zS rfl) | exact zL rfl rfl rfl | exact zX rfl (by assumption) rfl | exact zH rfl (by assumption) rfl | exact zH rfl (by assumption) (by assumption) | refine ⟨?_,?_⟩)),?_⟩
     by_cases n4 : s.lo ≤ o.block ∧ o.block < s.hi
     ·rw [decide_eq_true n4]
      repeat (first | refine yJ ?_ | refine yI rfl rfl rfl rfl rfl ?_)
      rw [decide_eq_false (fun h => h.elim (fun h => of_decide_eq_false n3 h) (fun h => by unfold inR at h; rw [decide_eq_true n4] at h; cases h))]
      exact ⟨_,(by repeat (first | exact zT _ | refine zO rfl ?_)),yK.out⟩
     ·rw [decide_eq_false n4]
      repeat (first | refine yJ ?_ | refine yI rfl rfl rfl rfl rfl ?_)
      rw [decide_eq_true (.inr (by unfold inR; rw [decide_eq_false n4]))]
      exact ⟨_,(by repeat (first | exact zT _ | refine zO rfl ?_)),yK.out⟩
   ·rintro g' _ ⟨R,hsub,rfl⟩
    refine hold_env hsub ?_
    refine hold_cond_d rfl (fun n3 => ?_) (fun n3 => ?_)
    ·repeat (first | refine zF ?_ | refine zB ?_ | refine zK rfl rfl rfl ?_ | refine zZ rfl rfl rfl rfl rfl ?_ | refine L_ld rfl rfl rfl rfl rfl ?_ | refine L_bs (vs := [_]) (cells := [_]) rfl rfl rfl rfl rfl rfl (fun _ => ?_))
     rename_i bt
     have hend := end_spec w0 (intsAt bt [o.txn]) b (.int .i64 s.lo) (.int .i64 s.hi) (.int .i64 s.epoch) (.slice a1 s.blocks.length c1) (.slice a2 s.kept.length c2) (.slice a4 s.preps.length c4) (.slice a6 s.outs.length c6) (.slice a7 s.sess.length c7) (.slice a3 s.locks.length c3) (.slice a5 s.dead.length c5) (.slice (some ⟨bt,0,none⟩) 1 1) s.locks s.dead [o.txn] h3 h5 (ints_block (b := bt) [o.txn] (by simp)) o3 o5 hk.dead (by omega) (by omega) (by simp)
     change Spec _ _ _ _ (pt bt (.cells [.int .i64 o.txn].toArray 3 (0,0)) + _) _ at hend
     refine zY rfl rfl (zQ rfl rfl rfl) hend ?_
     rintro _ _ ⟨E,vl',vd',h3',h5',rfl,o3',o5',rfl⟩
     obtain ⟨a3',c3',rfl⟩ := o3'.shape
     obtain ⟨a5',c5',rfl⟩ := o5'.shape
     repeat (first | refine zF ?_ | refine zB ?_ | refine zE ?_)
     refine zY rfl rfl (zQ rfl rfl rfl) (code22_spec w0 26) ?_
     rintro _ _ ⟨rfl,rfl⟩
     repeat (first | refine zE ?_ | refine zM ?_ | refine L_stA rfl (vs := [_,_]) rfl rfl rfl rfl (c' := [_,_]) rfl rfl ?_)
     rw [show readF s o = (endS s o.txn,⟨26,[]⟩) by unfold readF; rw [if_neg e1,if_neg n2,if_pos n3]]
     exact ⟨[_],X + E + (stC b (cellsS s (.slice a1 s.blocks.length c1) (.slice a2 s.kept.length c2) (.slice a3' (withoutL s.locks [o.txn]).length c3') (.slice a4 s.preps.length c4) (.slice a5' (endD s.dead [o.txn]).length c5') (.slice a6 s.outs.length c6) (.slice a7 s.sess.length c7)) + h1 + h2 + h3' + h4 + h5' + h6 + h7),_,⟨⟨_,rfl,zL rfl rfl rfl⟩,trivial⟩,
      PostS.code ⟨a1,c1,a2,c2,a3',c3',a4,c4,a5',c5',a6,c6,a7,c7,h1,h2,h3',h4,h5',h6,h7,o1.mono rfl,o2.mono rfl,o3',o4.mono rfl,o5',o6.mono rfl,o7.mono rfl,rfl⟩,yK.out⟩
    ·repeat (first | refine zF ?_ | refine zB ?_ | refine zK rfl rfl rfl ?_ | refine zZ rfl rfl rfl rfl rfl ?_ | refine L_ld rfl rfl rfl rfl rfl ?_ | refine zP ?_)
     have hfg := forget_spec w0 0 b (.int .i64 s.lo) (.int .i64 s.hi) (.int .i64 s.epoch) (.slice a1 s.blocks.length c1) (.slice a2 s.kept.length c2) (.slice a3 s.locks.length c3) (.slice a4 s.preps.length c4) (.slice a5 s.dead.length c5) (.slice a6 s.outs.length c6) (.slice a7 s.sess.length c7) s.dead h5 o.txn o5 (by omega)
     rw [hzero_add] at hfg
     refine zY rfl rfl (zQ rfl rfl rfl) hfg ?_
     rintro _ _ ⟨vd1,h5',rfl,o5',rfl⟩
     obtain ⟨a5',c5',rfl⟩ := o5'.shape
     rw [hzero_add]
     have hfl := filter_len (fun x => !eldF o.txn x) s.dead
     have htk := take22_spec w0 (X + h4) b (.int .i64 s.lo) (.int .i64 s.hi) (.int .i64 s.epoch) (.slice a1 s.blocks.length c1) (.slice a2 s.kept.length c2) (.slice a4 s.preps.length c4) (.slice a6 s.outs.length c6) (.slice a7 s.sess.length c7) (.slice a3 s.locks.length c3) (.slice a5' (s.dead.filter fun x => !eldF o.txn x).length c5') s.locks (s.dead.filter fun x => !eldF o.txn x) s.preps ⟨o.block,o.txn,o.age,false⟩ h3 h5' o4.rd0 o3 o5' (List.Pairwise.filter _ hk.dead) (by omega) (by omega) (by omega)
     have et : lockS s.locks (s.dead.filter fun x => !eldF o.txn x) ⟨o.block,o.txn,o.age,false⟩ (s.preps.map Prp.txn) = ((tkS (forgetS s o.txn) ⟨o.block,o.txn,o.age,false⟩).1.locks,(tkS (forgetS s o.txn) ⟨o.block,o.txn,o.age,false⟩).1.dead,(tkS (forgetS s o.txn) ⟨o.block,o.txn,o.age,false⟩).2) := rfl
     rw [et] at htk
     have e2 : readF s o = ((tkS (forgetS s o.txn) ⟨o.block,o.txn,o.age,false⟩).1,if (tkS (forgetS s o.txn) ⟨o.block,o.txn,o.age,false⟩).2 ≠ 0 then ⟨(tkS (forgetS s o.txn) ⟨o.block,o.txn,o.age,false⟩).2,[]⟩ else ⟨0,getB s.blocks o.block⟩) := by unfold readF; rw [if_neg e1,if_neg n2,if_neg n3]
     have e3 : (tkS (forgetS s o.txn) ⟨o.block,o.txn,o.age,false⟩).1 = { s with locks := (tkS (forgetS s o.txn) ⟨o.block,o.txn,o.age,false⟩).1.locks,dead := (tkS (forgetS s o.txn) ⟨o.block,o.txn,o.age,false⟩).1.dead } := rfl
     rw [e3] at e2
     generalize (tkS (forgetS s o.txn) ⟨o.block,o.txn,o.age,false⟩).1.locks = ls' at htk e2
     generalize (tkS (forgetS s o.txn) ⟨o.block,o.txn,o.age,false⟩).1.dead = d' at htk e2
     generalize (tkS (forgetS s o.txn) ⟨o.block,o.txn,o.age,false⟩).2 = er at htk e2
     repeat (first | refine zF ?_ | refine zB ?_ | refine zE ?_ | refine zK rfl rfl rfl ?_ | refine zZ rfl rfl rfl rfl rfl ?_ | refine L_ld rfl rfl rfl rfl rfl ?_ | refine L_build (vs := [_,_,_]) (cells := [_,_,_,_]) rfl rfl rfl rfl ?_)
     refine zY rfl rfl (zQ rfl rfl rfl) htk ?_
     rintro _ _ ⟨E,vl',vd',h3',h6',rfl,o3',o6',rfl⟩
     obtain ⟨a3',c3',rfl⟩ := o3'.shape
     obtain ⟨a6',c6',rfl⟩ := o6'.shape
     repeat (first | refine zF ?_ | refine zB ?_ | refine zE ?_ | refine zK rfl rfl rfl ?_)
     refine yG rfl rfl (pv_neq rfl rfl) (fun n5 => ?_) (fun n5 => ?_)
     ·repeat (first | refine zF ?_ | refine zB ?_ | refine zE ?_ | refine zK rfl rfl rfl ?_ | refine zJ rfl ?_)
      refine zY rfl rfl (zQ rfl rfl rfl) (code22_spec w0 er) ?_
      rintro _ _ ⟨rfl,rfl⟩
      repeat (first | refine zE ?_ | refine zM ?_ | refine L_stA rfl (vs := [_,_]) rfl rfl rfl rfl (c' := [_,_]) rfl rfl ?_)
      rw [if_pos n5] at e2
      rw [e2]
      exact ⟨[_],X + E + (stC b (cellsS s (.slice a1 s.blocks.length c1) (.slice a2 s.kept.length c2) (.slice a3' ls'.length c3') (.slice a4 s.preps.length c4) (.slice a6' d'.length c6') (.slice a6 s.outs.length c6) (.slice a7 s.sess.length c7)) + h1 + h2 + h3' + h4 + h6' + h6 + h7),_,⟨⟨_,rfl,zL rfl rfl rfl⟩,trivial⟩,
       PostS.code ⟨a1,c1,a2,c2,a3',c3',a4,c4,a6',c6',a6,c6,a7,c7,h1,h2,h3',h4,h6',h6,h7,o1.mono rfl,o2.mono rfl,o3',o4.mono rfl,o6',o6.mono rfl,o7.mono rfl,rfl⟩,yK.out⟩
     ·rw [if_neg n5] at e2
      rw [e2]
      repeat (first | refine zF ?_ | refine zE ?_ | refine zP ?_ | refine zI rfl ?_)
      refine yC [7,9] [0,1,2,3,4,5,6,7,8,9] (by kernel_rfl) rfl (by kernel_rfl) (by kernel_rfl) ?_
      repeat (first | refine yI rfl rfl rfl rfl rfl ?_ | refine yE rfl rfl rfl rfl (yA rfl rfl rfl) ?_ | refine W_load rfl rfl rfl rfl (yF rfl) (zG rfl (zS rfl)) ?_)
      refine W_call rfl rfl rfl rfl (zQ rfl rfl rfl) (get19_spec w0 (X + h1) _ s.blocks o.block o1.rd0 hk.blocks) (Kept.all _) ?_
      rintro vg _ ⟨hg,og,rfl⟩
      refine ⟨(by repeat (first | exact trivial | exact zG rfl (zS rfl) | exact zL rfl rfl rfl | exact zX rfl (by assumption) rfl | exact zH rfl (by assumption) rfl | exact zH rfl (by assumption) (by assumption) | refine ⟨?_,?_⟩)),?_⟩
      obtain ⟨ag,cg,rfl⟩ := og.shape
      repeat (refine yE rfl rfl rfl rfl (pv_build (vs := [_]) (cells := [_,_]) rfl rfl) ?_)
      refine W_eff rfl rfl rfl rfl (ev_storeA (vs := [_,_]) rfl rfl rfl rfl (c := [_,_]) (Nat.le_of_ble_eq_true rfl) (c' := [_,_]) rfl) (Kept.all _) ?_
      rintro _ _ rfl
      refine ⟨(by repeat (first | exact trivial | exact zG rfl (zS rfl) | exact zL rfl rfl rfl | exact zX rfl (by assumption) rfl | exact zH rfl (by assumption) rfl | exact zH rfl (by assumption) (by assumption) | refine ⟨?_,?_⟩)),?_⟩
      repeat (refine yJ ?_)
      repeat (refine zM ?_)
      exact ⟨[_],X + E + (stC b (cellsS s (.slice a1 s.blocks.length c1) (.slice a2 s.kept.length c2) (.slice a3' ls'.length c3') (.slice a4 s.preps.length c4) (.slice a6' d'.length c6') (.slice a6 s.outs.length c6) (.slice a7 s.sess.length c7)) + h1 + h2 + h3' + h4 + h6' + h6 + h7) + hg,_,⟨⟨_,rfl,zL rfl rfl rfl⟩,trivial⟩,
       ⟨E,_,hg,⟨ag,cg,rfl,og⟩,⟨a1,c1,a2,c2,a3',c3',a4,c4,a6',c6',a6,c6,a7,c7,h1,h2,h3',h4,h6',h6,h7,o1.mono rfl,o2.mono rfl,o3',o4.mono rfl,o6',o6.mono rfl,o7.mono rfl,rfl⟩,rfl⟩,yK.out⟩
end Sl
end Go.Proofs.YtpkealohodeifaaGreat
namespace Go.Proofs.YtpkealohodeifaaGreat
open Go Go.RowKit
namespace Sl
set_option maxHeartbeats 8000000
set_option maxRecDepth 4000
set_option synthInstance.maxHeartbeats 400000
set_option synthInstance.maxSize 100000
attribute [local irreducible] Hold HoldL HoldW
abbrev ptrC (c b : Nat) : Hp := pt c (.cells [.pointer (some ⟨b,0,none⟩)].toArray 140 (0,0))
section
variable (w0 : World) (b : Nat) (ep vb vk vl vp vd vo vx : Value)
theorem outside1_spec (l h n : Int) (c : Nat) :
  Spec Tryz.prog w0 235 [.int .i64 n,.pointer (some ⟨c,0,none⟩)] (ptrC c b + stC b [.int .i64 l,.int .i64 h,ep,vb,vk,vl,vp,vd,vo,vx]) (fun r h' => r = .bool (!decide (l ≤ n ∧ n < h)) ∧ ptrC c b + stC b [.int .i64 l,.int .i64 h,ep,vb,vk,vl,vp,vd,vo,vx] = h') := by
 refine zN Tryz.func235 rfl Tryz.ntmps235 Tryz.results235 rfl fun fr => ?_
 repeat (first | refine zF ?_ | refine zB ?_ | refine zE ?_ | refine zK rfl rfl rfl ?_ | refine L_ld rfl rfl rfl rfl rfl ?_)
 refine L_callD rfl rfl (zQ rfl rfl rfl) (hasB_spec w0 b ep vb vk vl vp vd vo vx l h n) (fun n1 => ?_) (fun n1 => ?_)
 ·repeat (first | refine zE ?_ | refine zK rfl rfl rfl ?_ | refine zM ?_)
  exact ⟨[_],_,_,⟨rfl,trivial⟩,⟨bool_no' (by rw [decide_eq_true n1]; rfl),rfl⟩,yK.out⟩
 ·repeat (first | refine zE ?_ | refine zK rfl rfl rfl ?_ | refine zM ?_)
  exact ⟨[_],_,_,⟨rfl,trivial⟩,⟨bool_yes' (by rw [decide_eq_false n1]; rfl),rfl⟩,yK.out⟩
theorem outside2_spec (l h : Int) (w : Wr) (Y : Hp) (e : List Value) (he : Rep.rd w0 Y w e) (c : Nat) :
  Spec Tryz.prog w0 236 [.agg e.toArray,.pointer (some ⟨c,0,none⟩)] (ptrC c b + stC b [.int .i64 l,.int .i64 h,ep,vb,vk,vl,vp,vd,vo,vx]) (fun r h' => r = .bool (!decide (l ≤ w.block ∧ w.block < h)) ∧ ptrC c b + stC b [.int .i64 l,.int .i64 h,ep,vb,vk,vl,vp,vd,vo,vx] = h') := by
 obtain ⟨a1,c1,rfl,_⟩ := he
 refine zN Tryz.func236 rfl Tryz.ntmps236 Tryz.results236 rfl fun fr => ?_
 repeat (first | refine zF ?_ | refine zB ?_ | refine zE ?_ | refine zK rfl rfl rfl ?_ | refine zZ rfl rfl rfl rfl rfl ?_ | refine L_ld rfl rfl rfl rfl rfl ?_ | refine L_box rfl (c := [_,_]) rfl rfl rfl (fun _ => ?_))
 refine L_callD rfl rfl (zQ rfl rfl rfl) (hasB_spec w0 b ep vb vk vl vp vd vo vx l h w.block) (fun n1 => ?_) (fun n1 => ?_)
 ·repeat (first | refine zE ?_ | refine zK rfl rfl rfl ?_ | refine zM ?_)
  exact ⟨[_],_,_,⟨rfl,trivial⟩,⟨bool_no' (by rw [decide_eq_true n1]; rfl),rfl⟩,yK.out⟩
 ·repeat (first | refine zE ?_ | refine zK rfl rfl rfl ?_ | refine zM ?_)
  exact ⟨[_],_,_,⟨rfl,trivial⟩,⟨bool_yes' (by rw [decide_eq_false n1]; rfl),rfl⟩,yK.out⟩
def outF (s : Shd) (o : Opn) : Bool := o.reads.any (fun n => !inR s n) || o.writes.any (fun w => !inR s w.block)
theorem outside_spec (s : Shd) (o : Opn) (X : Hp) (e : List Value) (ho : Rep.rd w0 X o e) (n1 : o.reads.length ≤ 1000000) (n2 : o.writes.length ≤ 1000000) :
  Spec Tryz.prog w0 196 [.pointer (some ⟨b,0,none⟩),.agg e.toArray] (X + stC b [.int .i64 s.lo,.int .i64 s.hi,ep,vb,vk,vl,vp,vd,vo,vx]) (fun r h' => r = .bool (outF s o) ∧ X + stC b [.int .i64 s.lo,.int .i64 s.hi,ep,vb,vk,vl,vp,vd,vo,vx] = h') := by
 obtain ⟨x1,y1,x2,y2,x3,y3,x4,y4,rfl,r1,r2,r3,r4⟩ := ho
 refine zN Tryz.func196 rfl Tryz.ntmps196 Tryz.results196 rfl fun fr => ?_
 repeat (first | refine zF ?_ | refine zB ?_ | refine zE ?_ | refine zK rfl rfl rfl ?_ | refine zZ rfl rfl rfl rfl rfl ?_ | refine L_ld rfl rfl rfl rfl rfl ?_ | refine L_box rfl (c := [_]) rfl rfl rfl (fun _ => ?_) | refine L_box rfl (c := [_,_,_,_,_,_,_,_,_,_,_,_,_,_,_,_,_]) rfl rfl rfl (fun _ => ?_) | refine L_clo rfl rfl rfl ?_)
 rename_i b2 b3
 have hc1 := containsFuncI_spec w0 (X + (ptrC b2 b + stC b [.int .i64 s.lo,.int .i64 s.hi,ep,vb,vk,vl,vp,vd,vo,vx])) (.slice x2 o.reads.length y2) o.reads 235 [.pointer (some ⟨b2,0,none⟩)] (fun n => !inR s n) (r2.frame) (by omega) (fun x hx => Spec.frameL (hadd_comm _ _) (outside1_spec w0 b ep vb vk vl vp vd vo vx s.lo s.hi x b2))
 have hc2 := containsFuncWr_spec w0 (X + (ptrC b2 b + stC b [.int .i64 s.lo,.int .i64 s.hi,ep,vb,vk,vl,vp,vd,vo,vx])) (.slice x3 o.writes.length y3) o.writes 236 [.pointer (some ⟨b2,0,none⟩)] (fun w => !inR s w.block) (r3.frame) (by omega) (fun Y x e hx he => Spec.frameL (hadd_comm _ _) (outside2_spec w0 b ep vb vk vl vp vd vo vx s.lo s.hi x Y e he b2))
 refine zY rfl rfl (zQ rfl rfl rfl) hc1 ?_
 rintro _ _ ⟨rfl,rfl⟩
 cases h1 : o.reads.any (fun n => !inR s n)
 ·repeat (first | refine zK rfl rfl rfl ?_ | refine zZ rfl rfl rfl rfl rfl ?_ | refine L_ld rfl rfl rfl rfl rfl ?_ | refine L_clo rfl rfl rfl ?_)
  refine zY rfl rfl (zQ rfl rfl rfl) hc2 ?_
  rintro _ _ ⟨rfl,rfl⟩
  repeat (first | refine zE ?_ | refine zK rfl rfl rfl ?_ | refine zM ?_)
  exact ⟨[_],_,_,⟨rfl,trivial⟩,⟨by unfold outF; rw [h1]; rfl,rfl⟩,yK.out⟩
 ·repeat (first | refine zE ?_ | refine zK rfl rfl rfl ?_ | refine L_skip rfl rfl ?_ | refine zM ?_)
  exact ⟨[_],_,_,⟨rfl,trivial⟩,⟨by unfold outF; rw [h1]; rfl,rfl⟩,yK.out⟩
theorem prepare1_spec (X : Hp) (lo hi : Value) (ls : List Lk) (o : Opn) (v1 v2 v3 v4 : Value) (n : Int) (c c2 : Nat) (hl : RdL w0 X vl ls) (hz : ls.length ≤ 1000000) :
  Spec Tryz.prog w0 195 [.int .i64 n,.pointer (some ⟨c,0,none⟩),.pointer (some ⟨c2,0,none⟩)] (X + ptrC c b + opC c2 o v1 v2 v3 v4 + stC b [lo,hi,ep,vb,vk,vl,vp,vd,vo,vx])
   (fun r h' => r = .bool (!hasL ls o.txn n false) ∧ X + ptrC c b + opC c2 o v1 v2 v3 v4 + stC b [lo,hi,ep,vb,vk,vl,vp,vd,vo,vx] = h') := by
 have hhas := has20_spec w0 X vl ls o.txn n false (rdL_locks.1 hl) (by omega)
 obtain ⟨a,cc,rfl⟩ := hl.shape
 refine zN Tryz.func195 rfl Tryz.ntmps195 Tryz.results195 rfl fun fr => ?_
 repeat (first | refine zF ?_ | refine zB ?_ | refine zE ?_ | refine zK rfl rfl rfl ?_)
 refine yC [8] [0,1,2,3,4,5,6,7,8,9,10] (by kernel_rfl) rfl (by kernel_rfl) (by kernel_rfl) ?_
 repeat (first | refine yI rfl rfl rfl rfl rfl ?_ | refine yE rfl rfl rfl rfl (yA rfl rfl rfl) ?_ | refine W_load rfl rfl rfl rfl (yF rfl) (zG rfl (zS rfl)) ?_)
 refine W_call rfl rfl rfl rfl (zQ rfl rfl rfl) hhas (Kept.all _) ?_
 rintro _ _ ⟨rfl,rfl⟩
 refine ⟨(by repeat (first | exact trivial | exact zG rfl (zS rfl) | exact zL rfl rfl rfl | exact zX rfl (by assumption) rfl | exact zH rfl (by assumption) rfl | exact zH rfl (by assumption) (by assumption) | refine ⟨?_,?_⟩)),?_⟩
 cases hh : hasL ls o.txn n false
 ·repeat (first | refine yJ ?_ | refine yI rfl rfl rfl rfl rfl ?_)
  repeat (refine zM ?_)
  exact ⟨[_],_,_,⟨rfl,trivial⟩,⟨rfl,rfl⟩,yK.out⟩
 ·repeat (first | refine yJ ?_ | refine yI rfl rfl rfl rfl rfl ?_)
  repeat (refine zM ?_)
  exact ⟨[_],_,_,⟨rfl,trivial⟩,⟨rfl,rfl⟩,yK.out⟩
end
theorem prepare2_spec (w0 : World) (p q : Prp) (e : List Value) (x5 x6 : Value) (Y : Hp) (he : Rep.rd w0 Y p e) :
  Spec Tryz.prog w0 199 [.agg e.toArray,.agg [.int .i64 q.txn,.int .i64 q.age,.int .i64 q.snap,.int .i64 q.lo,.int .i64 q.hi,x5,x6].toArray] 0 (fun r h' => r = .int .i64 (cmpI p.txn q.txn) ∧ 0 = h') := by
 obtain ⟨a1,c1,a2,c2,rfl,_,_⟩ := he
 refine zN Tryz.func199 rfl Tryz.ntmps199 Tryz.results199 rfl fun fr => ?_
 repeat (first | refine zF ?_ | refine zB ?_ | refine zE ?_ | refine zK rfl rfl rfl ?_ | refine zZ rfl rfl rfl rfl rfl ?_ | refine L_ld rfl rfl rfl rfl rfl ?_ | refine L_box rfl (c := [_,_,_,_,_,_,_]) rfl rfl rfl (fun _ => ?_))
 refine zY rfl rfl (zQ rfl rfl rfl) (compare_spec w0 p.txn q.txn) ?_
 rintro _ _ ⟨rfl,rfl⟩
 repeat (first | refine zE ?_ | refine zK rfl rfl rfl ?_ | refine zM ?_)
 exact ⟨[_],_,_,⟨rfl,trivial⟩,⟨rfl,rfl⟩,yK.out⟩
end Sl
end Go.Proofs.YtpkealohodeifaaGreat
namespace Go.Proofs.YtpkealohodeifaaGreat
open Go Go.RowKit
namespace Sl
set_option maxHeartbeats 16000000
set_option maxRecDepth 4000
set_option synthInstance.maxHeartbeats 400000
set_option synthInstance.maxSize 100000
attribute [local irreducible] Hold HoldL HoldW
def tkStep (x : Shd × Int) (k : Lk) : Shd × Int := if x.2 ≠ 0 then x else tkS x.1 k
def tkAll (s : Shd) (ks : List Lk) : Shd × Int := ks.foldl tkStep (s,0)
theorem endS_spec (w0 : World) (X : Hp) (b bt : Nat) (s : Shd) (h : Hp) (t : Int) (hs : ShAt w0 X b s h) (hk : s.locks.length ≤ 1000000 ∧ Rises s.dead) (hz : s.dead.length ≤ 1000000) :
  Spec Tryz.prog w0 191 [.pointer (some ⟨b,0,none⟩),.slice (some ⟨bt,0,none⟩) 1 1] (pt bt (.cells [.int .i64 t].toArray 3 (0,0)) + h) (fun r h' => ∃ E h2,r = .tuple #[] ∧ ShAt w0 X b (endS s t) h2 ∧ pt bt (.cells [.int .i64 t].toArray 3 (0,0)) + E + h2 = h') := by
 obtain ⟨a1,c1,a2,c2,a3,c3,a4,c4,a5,c5,a6,c6,a7,c7,h1,h2,h3,h4,h5,h6,h7,o1,o2,o3,o4,o5,o6,o7,rfl⟩ := hs
 have z1 := hk.1
 have hend := end_spec w0 (intsAt bt [t]) b (.int .i64 s.lo) (.int .i64 s.hi) (.int .i64 s.epoch) (.slice a1 s.blocks.length c1) (.slice a2 s.kept.length c2) (.slice a4 s.preps.length c4) (.slice a6 s.outs.length c6) (.slice a7 s.sess.length c7) (.slice a3 s.locks.length c3) (.slice a5 s.dead.length c5) (.slice (some ⟨bt,0,none⟩) 1 1) s.locks s.dead [t] h3 h5 (ints_block (b := bt) [t] (by simp)) o3 o5 hk.2 (by omega) (by omega) (by simp)
 change Spec _ _ _ _ (pt bt (.cells [.int .i64 t].toArray 3 (0,0)) + _) _ at hend
 refine hend.into (R := h1 + h2 + h4 + h6 + h7) (by ac_rfl) ?_
 rintro _ _ ⟨E,vl',vd',h3',h5',rfl,o3',o5',rfl⟩
 obtain ⟨a3',c3',rfl⟩ := o3'.shape
 obtain ⟨a5',c5',rfl⟩ := o5'.shape
 refine ⟨E,_,rfl,⟨a1,c1,a2,c2,a3',c3',a4,c4,a5',c5',a6,c6,a7,c7,h1,h2,h3',h4,h5',h6,h7,o1,o2,o3',o4,o5',o6,o7,rfl⟩,?_⟩
 show _ + _ + (stC b [.int .i64 s.lo,.int .i64 s.hi,.int .i64 s.epoch,.slice a1 s.blocks.length c1,.slice a2 s.kept.length c2,.slice a3' (withoutL s.locks [t]).length c3',.slice a4 s.preps.length c4,.slice a5' (endD s.dead [t]).length c5',.slice a6 s.outs.length c6,.slice a7 s.sess.length c7] + h1 + h2 + h3' + h4 + h5' + h6 + h7) = _
 ac_rfl
theorem tkStep_bad {x : Shd × Int} (h : x.2 ≠ 0) : ∀ ks : List Lk,ks.foldl tkStep x = x
 | [] => rfl
 | k :: ks => by
  show ks.foldl tkStep (tkStep x k) = x
  rw [show tkStep x k = x by unfold tkStep; rw [if_pos h]]
  exact tkStep_bad h ks
theorem tkAll_one {s s' : Shd} {ks : List Lk} (h : tkAll s ks = (s',0)) (k : Lk) : tkAll s (ks ++ [k]) = tkS s' k := by
 unfold tkAll at *
 rw [List.foldl_append,h]
 show tkStep (s',0) k = _
 unfold tkStep; rw [if_neg (by simp)]
theorem tkAll_bad {s : Shd} {ks : List Lk} (h : (tkAll s ks).2 ≠ 0) (ms : List Lk) : tkAll s (ks ++ ms) = tkAll s ks := by
 unfold tkAll at *
 rw [List.foldl_append,tkStep_bad h]
def ldS (s : Shd) (ls : List Lk) (d : List Int) : Shd := { s with locks := ls,dead := d }
theorem lockS_safe {ls : List Lk} (h : Safe ls) (d : List Int) (k : Lk) (fixed : List Int) : Safe (lockS ls d k fixed).1 := by
 unfold lockS
 split
 ·exact h
 ·split
  ·exact h.without _
  ·refine Safe.without ?_ _
   exact take_safe (takeF_P ls k fixed) h
theorem lockS_dead {ls : List Lk} (d : List Int) (k : Lk) (fixed : List Int) : (lockS ls d k fixed).2.1.length ≤ d.length + ls.length + 1 := by
 have h := (takeF_P ls k fixed).lens
 unfold lockS
 split
 ·simp only; omega
 ·split
  ·have := endD_len [k.txn] d
   simp only [List.length_singleton] at this ⊢; omega
  ·have := endD_len (takeF ls k fixed).2.1 d
   simp only; omega
theorem lockS_rises {ls : List Lk} {d : List Int} (h : Rises d) (k : Lk) (fixed : List Int) : Rises (lockS ls d k fixed).2.1 := by
 unfold lockS
 split
 ·exact h
 ·split
  ·exact endD_rises _ h
  ·exact endD_rises _ h
def writeLks (o : Opn) : List Lk := o.writes.map fun w => ⟨w.block,o.txn,o.age,true⟩
def readLks (o : Opn) (lo : Int) (n : Nat) : List Lk := (List.range n).map fun (j : Nat) => ⟨lo + (j : Int),o.txn,o.age,false⟩
def covLo (s : Shd) (o : Opn) : Int := max o.lo s.lo
def covHi (s : Shd) (o : Opn) : Int := max (min o.hi s.hi) (max o.lo s.lo)
def covN (s : Shd) (o : Opn) : Nat := if 0 < o.snap then (covHi s o - covLo s o).toNat else 0
def lostF (s : Shd) (o : Opn) : Bool := o.reads.any fun n => !hasL s.locks o.txn n false
def fullF (s : Shd) (o : Opn) : Prop := 0 < o.snap ∧ 64 < ((s.kept.length + sumMine s.locks s.preps : Nat) : Int) + covHi s o - covLo s o
instance (s : Shd) (o : Opn) : Decidable (fullF s o) := by unfold fullF; infer_instance
def prepOf (o : Opn) : Prp := ⟨o.txn,o.age,o.snap,o.lo,o.hi,o.parts,o.writes⟩
def insP (ps : List Prp) (p : Prp) : List Prp := ps.filter (fun x => decide (x.txn < p.txn)) ++ p :: ps.filter (fun x => decide (p.txn < x.txn))
def prepLks (s : Shd) (o : Opn) : List Lk := writeLks o ++ readLks o (covLo s o) (covN s o)
def prepareF (s : Shd) (o : Opn) : Shd × Res :=
 if isPrep s o.txn = true then (s,⟨0,[]⟩) else if o.txn ∈ s.dead then (s,⟨24,[]⟩)
 else if o.epoch ≠ s.epoch ∨ outF s o = true then (endS s o.txn,⟨26,[]⟩)
 else if lostF s o = true ∨ fullF s o then (endS s o.txn,⟨24,[]⟩)
 else if (tkAll (forgetS s o.txn) (prepLks s o)).2 ≠ 0 then ((tkAll (forgetS s o.txn) (prepLks s o)).1,⟨(tkAll (forgetS s o.txn) (prepLks s o)).2,[]⟩)
 else ({ (tkAll (forgetS s o.txn) (prepLks s o)).1 with preps := insP s.preps (prepOf o) },⟨0,[]⟩)
def TkOk (s : Shd) (o : Opn) (ks : List Lk) (n : Nat) (ls : List Lk) (d : List Int) : Prop := tkAll (forgetS s o.txn) ks = (ldS s ls d,0) ∧ Safe ls ∧ Rises d ∧ d.length ≤ s.dead.length + 65 * n
theorem TkOk.step {s : Shd} {o : Opn} {ks : List Lk} {n : Nat} {ls : List Lk} {d : List Int} (h : TkOk s o ks n ls d) (k : Lk) (he : (lockS ls d k (s.preps.map Prp.txn)).2.2 = 0) :
  TkOk s o (ks ++ [k]) (n + 1) (lockS ls d k (s.preps.map Prp.txn)).1 (lockS ls d k (s.preps.map Prp.txn)).2.1 := by
 obtain ⟨h1,h2,h3,h4⟩ := h
 refine ⟨?_,lockS_safe h2 _ _ _,lockS_rises h3 _ _,?_⟩
 ·rw [tkAll_one h1]
  show (_,(lockS ls d k (s.preps.map Prp.txn)).2.2) = _
  rw [he]; rfl
 ·have := lockS_dead (ls := ls) d k (s.preps.map Prp.txn)
  have := h2.few
  omega
theorem TkOk.bad {s : Shd} {o : Opn} {ks : List Lk} {n : Nat} {ls : List Lk} {d : List Int} (h : TkOk s o ks n ls d) (k : Lk) (he : (lockS ls d k (s.preps.map Prp.txn)).2.2 ≠ 0) (ms : List Lk) :
  tkAll (forgetS s o.txn) (ks ++ [k] ++ ms) = (ldS s (lockS ls d k (s.preps.map Prp.txn)).1 (lockS ls d k (s.preps.map Prp.txn)).2.1,(lockS ls d k (s.preps.map Prp.txn)).2.2) := by
 have e := tkAll_one h.1 k
 rw [tkAll_bad (by rw [e]; exact he),e]
 rfl
theorem TkOk.stepAt {s : Shd} {o : Opn} {l : List Lk} {k : Nat} {ls : List Lk} {d : List Int} (h : TkOk s o (l.take k) k ls d) {x : Lk} (hx : l[k]? = some x) (he : (lockS ls d x (s.preps.map Prp.txn)).2.2 = 0) :
  TkOk s o (l.take (k + 1)) (k + 1) (lockS ls d x (s.preps.map Prp.txn)).1 (lockS ls d x (s.preps.map Prp.txn)).2.1 := by
 rw [List.take_add_one,hx]
 exact h.step x he
theorem TkOk.badAt {s : Shd} {o : Opn} {l : List Lk} {k : Nat} {ls : List Lk} {d : List Int} (h : TkOk s o (l.take k) k ls d) {x : Lk} (hx : l[k]? = some x) (he : (lockS ls d x (s.preps.map Prp.txn)).2.2 ≠ 0) :
  tkAll (forgetS s o.txn) l = (ldS s (lockS ls d x (s.preps.map Prp.txn)).1 (lockS ls d x (s.preps.map Prp.txn)).2.1,(lockS ls d x (s.preps.map Prp.txn)).2.2) := by
 have e : l = l.take k ++ [x] ++ l.drop (k + 1) := by
  obtain ⟨hk,rfl⟩ := List.getElem?_eq_some_iff.1 hx
  rw [List.append_assoc,List.singleton_append,← List.drop_eq_getElem_cons hk,List.take_append_drop]
 have := h.bad x he (l.drop (k + 1))
 rwa [← e] at this
theorem prepLks_w (s : Shd) (o : Opn) {k : Nat} (h : k < o.writes.length) : (prepLks s o)[k]? = some ⟨o.writes[k].block,o.txn,o.age,true⟩ := by
 unfold prepLks writeLks
 rw [List.getElem?_append_left (by simpa using h),List.getElem?_map,List.getElem?_eq_getElem h]
 rfl
theorem prepLks_r (s : Shd) (o : Opn) {j : Nat} (h : j < covN s o) : (prepLks s o)[o.writes.length + j]? = some ⟨covLo s o + (j : Int),o.txn,o.age,false⟩ := by
 unfold prepLks writeLks readLks
 rw [List.getElem?_append_right (by simp),List.length_map,Nat.add_sub_cancel_left,List.getElem?_map,List.getElem?_range h]
 rfl
theorem prepLks_len (s : Shd) (o : Opn) : (prepLks s o).length = o.writes.length + covN s o := by simp [prepLks,writeLks,readLks]
theorem ShAt.ld {w0 : World} {X h1 h2 h3 h4 h5 h6 h7 : Hp} {b : Nat} {s : Shd} {ls : List Lk} {d : List Int} {a1 a2 a3 a4 a5 a6 a7 : Option Addr} {c1 c2 c3 c4 c5 c6 c7 : Nat}
  (o1 : OwL w0 X s.blocks (.slice a1 s.blocks.length c1) h1) (o2 : OwL w0 X s.kept (.slice a2 s.kept.length c2) h2) (o3 : OwL w0 0 ls (.slice a3 ls.length c3) h3) (o4 : OwL w0 X s.preps (.slice a4 s.preps.length c4) h4) (o5 : OwL w0 0 d (.slice a5 d.length c5) h5) (o6 : OwL w0 X s.outs (.slice a6 s.outs.length c6) h6) (o7 : OwL w0 X s.sess (.slice a7 s.sess.length c7) h7) :
  ShAt w0 X b (ldS s ls d) (stC b (cellsS s (.slice a1 s.blocks.length c1) (.slice a2 s.kept.length c2) (.slice a3 ls.length c3) (.slice a4 s.preps.length c4) (.slice a5 d.length c5) (.slice a6 s.outs.length c6) (.slice a7 s.sess.length c7)) + h1 + h2 + h3 + h4 + h5 + h6 + h7) :=
 ⟨a1,c1,a2,c2,a3,c3,a4,c4,a5,c5,a6,c6,a7,c7,h1,h2,h3,h4,h5,h6,h7,o1,o2,o3,o4,o5,o6,o7,rfl⟩
def fallQ (p : Env → Hp → Prop) (Q : Post) : Post
 | .normal,g,L => p g L
 | e,g,L => Q e g L
theorem hold_fall {P : Program} {n : Nat} {w0 : World} {c : Code} {Q : Post} {g : Env} {L : Hp} (p : Env → Hp → Prop) (h1 : Hold P n w0 c (fallQ p Q) g L) (h2 : ∀ g' L',p g' L' → Q .normal g' L') : Hold P n w0 c Q g L :=
 hold_mono (fun e g' L' h => by cases e <;> first | exact h2 _ _ h | exact h) h1
theorem cmpI_neg {a b : Int} : (cmpI a b < 0) = (a - b < 0) := by
 unfold cmpI
 apply propext
 split
 ·omega
 ·split <;> omega
abbrev spanC (b : Nat) (lo hi : Int) : Hp := pt b (.cells [.int .i64 lo,.int .i64 hi].toArray 70 (0,0))
theorem prepare22_spec (w0 : World) (X : Hp) (b : Nat) (s : Shd) (h : Hp) (o : Opn) (e : List Value) (hs : ShAt w0 X b s h) (ho : Rep.rd w0 X o e) (hz : Sized s) (hk : Okay s) (hsp : 0 ≤ o.lo ∧ o.lo ≤ o.hi ∧ o.hi ≤ 64) (hrg : 0 ≤ s.lo ∧ s.lo ≤ 64 ∧ 0 ≤ s.hi ∧ s.hi ≤ 64)
  (hr : o.reads.length ≤ 1000) (hw : o.writes.length ≤ 1000) :
  Spec Tryz.prog w0 156 [.pointer (some ⟨b,0,none⟩),.agg e.toArray] (X + h) (PostS w0 X b (prepareF s o)) := by
 have hout := fun vb vk vl vp vd vo vx => outside_spec w0 b (.int .i64 s.epoch) vb vk vl vp vd vo vx s o X e ho (by omega) (by omega)
 obtain ⟨a1,c1,a2,c2,a3,c3,a4,c4,a5,c5,a6,c6,a7,c7,h1,h2,h3,h4,h5,h6,h7,o1,o2,o3,o4,o5,o6,o7,rfl⟩ := id hs
 obtain ⟨x1,y1,x2,y2,x3,y3,x4,y4,rfl,r1,r2,r3,r4⟩ := id ho
 replace hout := hout (.slice a1 s.blocks.length c1) (.slice a2 s.kept.length c2) (.slice a3 s.locks.length c3) (.slice a4 s.preps.length c4) (.slice a5 s.dead.length c5) (.slice a6 s.outs.length c6) (.slice a7 s.sess.length c7)
 have z1 := hk.locks.few
 have z2 := hz.dead
 have z3 := hz.preps
 have z4 := hz.kept
 have hcov := covered_spec w0 b (.int .i64 s.epoch) (.slice a1 s.blocks.length c1) (.slice a2 s.kept.length c2) (.slice a3 s.locks.length c3) (.slice a4 s.preps.length c4) (.slice a5 s.dead.length c5) (.slice a6 s.outs.length c6) (.slice a7 s.sess.length c7) s.lo s.hi o.lo o.hi
 have hprep := prepared_spec w0 (X + h4) b (.int .i64 s.lo) (.int .i64 s.hi) (.int .i64 s.epoch) (.slice a1 s.blocks.length c1) (.slice a2 s.kept.length c2) (.slice a3 s.locks.length c3) (.slice a4 s.preps.length c4) (.slice a5 s.dead.length c5) (.slice a6 s.outs.length c6) (.slice a7 s.sess.length c7) s.preps o.txn o4.rd0 (by omega)
 have hcon := containsI_spec w0 h5 (.slice a5 s.dead.length c5) s.dead o.txn (rdL_ints.1 o5.rdh) (by omega)
 refine zN Tryz.func156 rfl Tryz.ntmps156 Tryz.results156 rfl fun fr => ?_
 repeat (first | refine zF ?_ | refine zB ?_ | refine zE ?_ | refine zZ rfl rfl rfl rfl rfl ?_ | refine L_ld rfl rfl rfl rfl rfl ?_ | refine L_box rfl (c := [_]) rfl rfl rfl (fun _ => ?_) | refine L_box rfl (c := [_,_,_,_,_,_,_,_,_,_,_,_,_,_,_,_,_]) rfl rfl rfl (fun _ => ?_) | refine L_alloc (c := [_,_]) rfl rfl rfl (fun _ => ?_))
 rename_i b2 b3 b4
 refine zY rfl rfl (zQ rfl rfl rfl) hcov ?_
 rintro _ _ ⟨rfl,rfl⟩
 rw [show max o.lo s.lo = covLo s o from rfl,show max (min o.hi s.hi) (covLo s o) = covHi s o from rfl]
 repeat (first | refine zF ?_ | refine zR ?_ | refine zB ?_ | refine zE ?_ | refine zK rfl rfl rfl ?_ | refine zZ rfl rfl rfl rfl rfl ?_ | refine L_ld rfl rfl rfl rfl rfl ?_ | refine L_stA rfl (vs := [_,_]) rfl rfl rfl rfl (c' := [_,_]) rfl rfl ?_ | refine L_alloc (c := [_,_]) rfl rfl rfl (fun _ => ?_) | refine L_clo rfl rfl rfl ?_)
 rename_i b5
 refine zY rfl rfl (zQ rfl rfl rfl) hprep ?_
 rintro _ _ ⟨rfl,rfl⟩
 skip
 refine yG rfl rfl (pv_geq rfl rfl) (fun n1 => ?_) (fun n1 => ?_)
 ·have e1 : isPrep s o.txn = true := by rw [isPrep_idx]; exact decide_eq_true n1
  repeat (first | refine zF ?_ | refine zB ?_ | refine zE ?_ | refine zK rfl rfl rfl ?_ | refine zJ rfl ?_)
  refine zY rfl rfl (zQ rfl rfl rfl) (code22_spec w0 0) ?_
  rintro _ _ ⟨rfl,rfl⟩
  repeat (first | refine zE ?_ | refine zM ?_ | refine L_stA rfl (vs := [_,_]) rfl rfl rfl rfl (c' := [_,_]) rfl rfl ?_)
  rw [show prepareF s o = (s,⟨0,[]⟩) by unfold prepareF; rw [if_pos e1]]
  exact ⟨[_],_,_,⟨⟨_,rfl,zL rfl rfl rfl⟩,trivial⟩,PostS.same hs,yK.out⟩
 ·have e1 : ¬ isPrep s o.txn = true := by rw [isPrep_idx]; simpa using n1
  repeat (first | refine zF ?_ | refine zE ?_ | refine zK rfl rfl rfl ?_ | refine zI rfl ?_)
  refine yC [7] [0,1,2,3,4,5,6,7,8] (by kernel_rfl) rfl (by kernel_rfl) (by kernel_rfl) ?_
  repeat (first | refine yI rfl rfl rfl rfl rfl ?_ | refine yE rfl rfl rfl rfl (yA rfl rfl rfl) ?_ | refine W_load rfl rfl rfl rfl (yF rfl) (zG rfl (zS rfl)) ?_)
  refine W_call rfl rfl rfl rfl (zQ rfl rfl rfl) hcon (Kept.all _) ?_
  rintro _ _ ⟨rfl,rfl⟩
  refine ⟨(by repeat (first | exact trivial | exact zG rfl (zS rfl) | exact zL rfl rfl rfl | exact zX rfl (by assumption) rfl | exact zH rfl (by assumption) rfl | exact zH rfl (by assumption) (by assumption) | refine ⟨?_,?_⟩)),?_⟩
  repeat (first | refine yJ ?_ | refine yI rfl rfl rfl rfl rfl ?_)
  refine hold_cond_d rfl (fun n2 => ?_) (fun n2 => ?_)
  ·repeat (first | refine zF ?_ | refine zB ?_)
   refine zY rfl rfl (zQ rfl rfl rfl) (code22_spec w0 24) ?_
   rintro _ _ ⟨rfl,rfl⟩
   repeat (first | refine zE ?_ | refine zM ?_ | refine L_stA rfl (vs := [_,_]) rfl rfl rfl rfl (c' := [_,_]) rfl rfl ?_)
   rw [show prepareF s o = (s,⟨24,[]⟩) by unfold prepareF; rw [if_neg e1,if_pos n2]]
   exact ⟨[_],_,_,⟨⟨_,rfl,zL rfl rfl rfl⟩,trivial⟩,PostS.same hs,yK.out⟩
  ·repeat (refine zF ?_)
   refine hold_join (fun g' L' => ∃ (R : Hp),Sub g' [(2,.pointer (some ⟨b2,0,none⟩)),(3,.pointer (some ⟨b3,0,none⟩)),(4,.pointer (some ⟨b4,0,none⟩)),(5,.pointer (some ⟨b5,0,none⟩)),(6,.func (.func 195) #[] #[.pointer (some ⟨b2,0,none⟩),.pointer (some ⟨b3,0,none⟩)]),(39,.bool (decide (o.epoch ≠ s.epoch ∨ outF s o = true)))] ∧
    L' = X + (stC b (cellsS s (.slice a1 s.blocks.length c1) (.slice a2 s.kept.length c2) (.slice a3 s.locks.length c3) (.slice a4 s.preps.length c4) (.slice a5 s.dead.length c5) (.slice a6 s.outs.length c6) (.slice a7 s.sess.length c7)) + h1 + h2 + h3 + h4 + h5 + h6 + h7) + ptrC b2 b +
     opC b3 o (.slice x1 o.parts.length y1) (.slice x2 o.reads.length y2) (.slice x3 o.writes.length y3) (.slice x4 o.data.length y4) + resC b4 + spanC b5 (covLo s o) (covHi s o) + fr + R) ?_ ?_
   ·refine yC [11] [0,1,2,3,4,5,6,7,8,9,10,11,12,13] (by kernel_rfl) rfl (by kernel_rfl) (by kernel_rfl) ?_
    repeat (first | refine yI rfl rfl rfl rfl rfl ?_ | refine yE rfl rfl rfl rfl (yA rfl rfl rfl) ?_ | refine W_load rfl rfl rfl rfl (yF rfl) (zG rfl (zS rfl)) ?_)
    refine W_bool rfl rfl rfl rfl (pv_neq rfl rfl) (fun n3 => ?_) (fun n3 => ?_)
    ·repeat (first | refine yJ ?_ | refine yI rfl rfl rfl rfl rfl ?_ | refine W_skip rfl rfl rfl rfl ?_ | refine W_not rfl rfl rfl rfl ?_)
     rw [decide_eq_true (.inl (of_decide_eq_true n3))]
     exact ⟨_,(by repeat (first | exact zT _ | refine zO rfl ?_)),yK.out⟩
    ·repeat (first | refine yI rfl rfl rfl rfl rfl ?_ | refine W_load rfl rfl rfl rfl (yF rfl) (zG rfl (zS rfl)) ?_ | refine W_load rfl rfl rfl rfl (yF rfl) (zL (vs := [_,_,_,_,_,_,_,_,_,_,_,_,_,_,_,_,_]) rfl rfl rfl) ?_)
     refine W_call rfl rfl rfl rfl (zQ rfl rfl rfl) hout (Kept.all _) ?_
     rintro _ _ ⟨rfl,rfl⟩
     refine ⟨(by repeat (first | exact trivial | exact zG rfl (zS rfl) | exact zL rfl rfl rfl | exact zX rfl (by assumption) rfl | exact zH rfl (by assumption) rfl | exact zH rfl (by assumption) (by assumption) | refine ⟨?_,?_⟩)),?_⟩
     repeat (first | refine yJ ?_ | refine yI rfl rfl rfl rfl rfl ?_)
     have hd : outF s o = decide (o.epoch ≠ s.epoch ∨ outF s o = true) := by
      cases h : outF s o
      ·exact (decide_eq_false (fun h' => h'.elim (of_decide_eq_false n3) (fun h'' => Bool.noConfusion h''))).symm
      ·exact (decide_eq_true (.inr rfl)).symm
     rw [← hd]
     exact ⟨_,(by repeat (first | exact zT _ | refine zO rfl ?_)),yK.out⟩
   ·rintro g' _ ⟨R,hsub,rfl⟩
    refine hold_env hsub ?_
    refine hold_cond_d rfl (fun n3 => ?_) (fun n3 => ?_)
    ·repeat (first | refine zF ?_ | refine zB ?_ | refine zZ rfl rfl rfl rfl rfl ?_ | refine L_ld rfl rfl rfl rfl rfl ?_ | refine L_bs (vs := [_]) (cells := [_]) rfl rfl rfl rfl rfl rfl (fun _ => ?_))
     rename_i bt
     refine zY rfl rfl (zQ rfl rfl rfl) (endS_spec w0 X b bt s _ o.txn hs ⟨by omega,hk.dead⟩ (by omega)) ?_
     rintro _ _ ⟨E,h2',rfl,hs',rfl⟩
     repeat (first | refine zF ?_ | refine zB ?_ | refine zE ?_)
     refine zY rfl rfl (zQ rfl rfl rfl) (code22_spec w0 26) ?_
     rintro _ _ ⟨rfl,rfl⟩
     repeat (first | refine zE ?_ | refine zM ?_ | refine L_stA rfl (vs := [_,_]) rfl rfl rfl rfl (c' := [_,_]) rfl rfl ?_)
     rw [show prepareF s o = (endS s o.txn,⟨26,[]⟩) by unfold prepareF; rw [if_neg e1,if_neg n2,if_pos n3]]
     exact ⟨[_],X + E + h2',_,⟨⟨_,rfl,zL rfl rfl rfl⟩,trivial⟩,PostS.code (hs'.mono rfl),yK.out⟩
    ·repeat (first | refine zF ?_ | refine zB ?_ | refine zK rfl rfl rfl ?_ | refine zZ rfl rfl rfl rfl rfl ?_ | refine L_ld rfl rfl rfl rfl rfl ?_)
     have hc1 := containsFuncI_spec w0 (X + (h3 + ptrC b2 b + opC b3 o (.slice x1 o.parts.length y1) (.slice x2 o.reads.length y2) (.slice x3 o.writes.length y3) (.slice x4 o.data.length y4) + stC b (cellsS s (.slice a1 s.blocks.length c1) (.slice a2 s.kept.length c2) (.slice a3 s.locks.length c3) (.slice a4 s.preps.length c4) (.slice a5 s.dead.length c5) (.slice a6 s.outs.length c6) (.slice a7 s.sess.length c7)))) (.slice x2 o.reads.length y2) o.reads 195 [.pointer (some ⟨b2,0,none⟩),.pointer (some ⟨b3,0,none⟩)] (fun n => !hasL s.locks o.txn n false) (r2.frame) (by omega)
      (fun x hx => Spec.frameL (hadd_comm _ _) (prepare1_spec w0 b (.int .i64 s.epoch) (.slice a1 s.blocks.length c1) (.slice a2 s.kept.length c2) (.slice a3 s.locks.length c3) (.slice a4 s.preps.length c4) (.slice a5 s.dead.length c5) (.slice a6 s.outs.length c6) (.slice a7 s.sess.length c7) h3 (.int .i64 s.lo) (.int .i64 s.hi) s.locks o (.slice x1 o.parts.length y1) (.slice x2 o.reads.length y2) (.slice x3 o.writes.length y3) (.slice x4 o.data.length y4) x b2 b3 o3.rdh (by omega)))
     refine zY rfl rfl (zQ rfl rfl rfl) hc1 ?_
     rintro _ _ ⟨rfl,rfl⟩
     have hkn := keptN_spec w0 (X + (h2 + h3 + h4)) b (.int .i64 s.lo) (.int .i64 s.hi) (.int .i64 s.epoch) (.slice a1 s.blocks.length c1) (.slice a2 s.kept.length c2) (.slice a3 s.locks.length c3) (.slice a4 s.preps.length c4) (.slice a5 s.dead.length c5) (.slice a6 s.outs.length c6) (.slice a7 s.sess.length c7) s.locks s.preps s.kept (o3.rd (L := X + (h2 + h3 + h4)) (R := X + h2 + h4) (hf := ⟨by simp only [hzero_add]; ac_rfl⟩)) (o4.rd (R := h2 + h3) (hf := ⟨by ac_rfl⟩)) (o2.rd (R := h3 + h4) (hf := ⟨by ac_rfl⟩)) (by omega) (by omega) (by omega)
     have hsm := sumMine_len s.locks s.preps
     have hcv : 0 ≤ covLo s o ∧ covLo s o ≤ covHi s o ∧ covHi s o ≤ 64 := by unfold covLo covHi; omega
     clear hc1 hcon hprep hcov hout
     repeat (first | refine zE ?_ | refine zK rfl rfl rfl ?_)
     refine hold_join (fun g' L' => ∃ (R : Hp),Sub g' [(2,.pointer (some ⟨b2,0,none⟩)),(3,.pointer (some ⟨b3,0,none⟩)),(4,.pointer (some ⟨b4,0,none⟩)),(5,.pointer (some ⟨b5,0,none⟩)),(59,.bool (decide (lostF s o = true ∨ fullF s o)))] ∧
      L' = X + (stC b (cellsS s (.slice a1 s.blocks.length c1) (.slice a2 s.kept.length c2) (.slice a3 s.locks.length c3) (.slice a4 s.preps.length c4) (.slice a5 s.dead.length c5) (.slice a6 s.outs.length c6) (.slice a7 s.sess.length c7)) + h1 + h2 + h3 + h4 + h5 + h6 + h7) + ptrC b2 b +
       opC b3 o (.slice x1 o.parts.length y1) (.slice x2 o.reads.length y2) (.slice x3 o.writes.length y3) (.slice x4 o.data.length y4) + resC b4 + spanC b5 (covLo s o) (covHi s o) + fr + R) ?_ ?_
     ·cases hlost : o.reads.any fun n => !hasL s.locks o.txn n false
      ·repeat (refine zI rfl ?_)
       refine yC [5] [0,1,2,3,4,6,7,9,10,5,8,11,12,13,14] (by kernel_rfl) rfl (by kernel_rfl) (by kernel_rfl) ?_
       repeat (first | refine yE rfl rfl rfl rfl (yA rfl rfl rfl) ?_ | refine W_load rfl rfl rfl rfl (yF rfl) (zG rfl (zS rfl)) ?_)
       refine W_bool rfl rfl rfl rfl (pv_gtr rfl rfl) (fun n4 => ?_) (fun n4 => ?_)
       ·repeat (first | refine yI rfl rfl rfl rfl rfl ?_ | refine yE rfl rfl rfl rfl (yA rfl rfl rfl) ?_ | refine W_load rfl rfl rfl rfl (yF rfl) (zG rfl (zS rfl)) ?_)
        refine W_call rfl rfl rfl rfl (zQ rfl rfl rfl) hkn (Kept.all _) ?_
        rintro _ _ ⟨E,rfl,rfl⟩
        refine ⟨(by repeat (first | exact trivial | exact zG rfl (zS rfl) | exact zL rfl rfl rfl | exact zX rfl (by assumption) rfl | exact zH rfl (by assumption) rfl | exact zH rfl (by assumption) (by assumption) | refine ⟨?_,?_⟩)),?_⟩
        generalize hm : s.kept.length + sumMine s.locks s.preps = m at *
        have hf : fullF s o ↔ 64 < (m : Int) + covHi s o - covLo s o := by unfold fullF; rw [hm]; exact ⟨fun h => h.2,fun h => ⟨of_decide_eq_true n4,h⟩⟩
        refine yE rfl rfl rfl rfl (pv_add rfl rfl (by omega) (by omega)) ?_
        refine yE rfl rfl rfl rfl (pv_sub rfl rfl (by omega) (by omega)) ?_
        refine yE rfl rfl rfl rfl (pv_gtr rfl rfl) ?_
        repeat (first | refine yJ ?_ | refine yI rfl rfl rfl rfl rfl ?_)
        rw [show decide (64 < (m : Int) + covHi s o - covLo s o) = decide (lostF s o = true ∨ fullF s o) from decide_eq_decide.2 ⟨fun h => .inr (hf.2 h),fun h => h.elim (fun h => by rw [show lostF s o = false from hlost] at h; cases h) hf.1⟩]
        exact ⟨_,(by repeat (first | exact zT _ | refine zO rfl ?_)),yK.out⟩
       ·repeat (first | refine yJ ?_ | refine yI rfl rfl rfl rfl rfl ?_ | refine W_skip rfl rfl rfl rfl ?_ | refine W_not rfl rfl rfl rfl ?_)
        rw [decide_eq_false (fun h => h.elim (fun h => by rw [show lostF s o = false from hlost] at h; cases h) (fun h => of_decide_eq_false n4 h.1))]
        exact ⟨_,(by repeat (first | exact zT _ | refine zO rfl ?_)),yK.out⟩
      ·repeat (first | refine zP ?_ | refine zJ rfl ?_)
       rw [decide_eq_true (.inl hlost)]
       exact ⟨_,(by repeat (first | exact zT _ | refine zO rfl ?_)),yK.out⟩
     ·rintro g' _ ⟨R2,hsub2,rfl⟩
      refine hold_env hsub2 ?_
      clear hsub hsub2 hkn
      refine hold_cond_d rfl (fun n4 => ?_) (fun n4 => ?_)
      ·repeat (first | refine zF ?_ | refine zB ?_ | refine zZ rfl rfl rfl rfl rfl ?_ | refine L_ld rfl rfl rfl rfl rfl ?_ | refine L_bs (vs := [_]) (cells := [_]) rfl rfl rfl rfl rfl rfl (fun _ => ?_))
       rename_i bt
       refine zY rfl rfl (zQ rfl rfl rfl) (endS_spec w0 X b bt s _ o.txn hs ⟨by omega,hk.dead⟩ (by omega)) ?_
       rintro _ _ ⟨E,h2',rfl,hs',rfl⟩
       repeat (first | refine zF ?_ | refine zB ?_ | refine zE ?_)
       refine zY rfl rfl (zQ rfl rfl rfl) (code22_spec w0 24) ?_
       rintro _ _ ⟨rfl,rfl⟩
       repeat (first | refine zE ?_ | refine zM ?_ | refine L_stA rfl (vs := [_,_]) rfl rfl rfl rfl (c' := [_,_]) rfl rfl ?_)
       rw [show prepareF s o = (endS s o.txn,⟨24,[]⟩) by unfold prepareF; rw [if_neg e1,if_neg n2,if_neg n3,if_pos n4]]
       exact ⟨[_],X + E + h2',_,⟨⟨_,rfl,zL rfl rfl rfl⟩,trivial⟩,PostS.code (hs'.mono rfl),yK.out⟩
      ·have e2 : prepareF s o = if (tkAll (forgetS s o.txn) (prepLks s o)).2 ≠ 0 then ((tkAll (forgetS s o.txn) (prepLks s o)).1,⟨(tkAll (forgetS s o.txn) (prepLks s o)).2,[]⟩)
         else ({ (tkAll (forgetS s o.txn) (prepLks s o)).1 with preps := insP s.preps (prepOf o) },⟨0,[]⟩) := by unfold prepareF; rw [if_neg e1,if_neg n2,if_neg n3,if_neg n4]
       repeat (first | refine zF ?_ | refine zB ?_ | refine zZ rfl rfl rfl rfl rfl ?_ | refine L_ld rfl rfl rfl rfl rfl ?_ | refine zP ?_)
       have hfg := forget_spec w0 0 b (.int .i64 s.lo) (.int .i64 s.hi) (.int .i64 s.epoch) (.slice a1 s.blocks.length c1) (.slice a2 s.kept.length c2) (.slice a3 s.locks.length c3) (.slice a4 s.preps.length c4) (.slice a5 s.dead.length c5) (.slice a6 s.outs.length c6) (.slice a7 s.sess.length c7) s.dead h5 o.txn o5 (by omega)
       rw [hzero_add] at hfg
       refine zY rfl rfl (zQ rfl rfl rfl) hfg ?_
       rintro _ _ ⟨vd1,h5',rfl,o5',rfl⟩
       obtain ⟨a5',c5',rfl⟩ := o5'.shape
       rw [hzero_add]
       have t0 : TkOk s o ((prepLks s o).take 0) 0 s.locks (s.dead.filter fun x => !eldF o.txn x) := ⟨rfl,hk.locks,List.Pairwise.filter _ hk.dead,by have := filter_len (fun x => !eldF o.txn x) s.dead; omega⟩
       clear hfg
       repeat (first | refine zF ?_ | refine zR ?_ | refine zB ?_ | refine zE ?_ | refine zK rfl rfl rfl ?_ | refine zZ rfl rfl rfl rfl rfl ?_ | refine L_ld rfl rfl rfl rfl rfl ?_ | refine L_len rfl rfl rfl ?_)
       refine hold_count o.writes.length (fun k g L => ∃ (ls : List Lk) (d : List Int) (a3' : Option Addr) (c3' : Nat) (a5' : Option Addr) (c5' : Nat) (h3' h5' R : Hp),g = [(2,.pointer (some ⟨b2,0,none⟩)),(3,.pointer (some ⟨b3,0,none⟩)),(4,.pointer (some ⟨b4,0,none⟩)),(5,.pointer (some ⟨b5,0,none⟩)),(89,.slice x3 o.writes.length y3),(90,.int .i64 o.writes.length),(91,.int .i64 k)] ∧
        TkOk s o ((prepLks s o).take k) k ls d ∧ OwL w0 0 ls (.slice a3' ls.length c3') h3' ∧ OwL w0 0 d (.slice a5' d.length c5') h5' ∧ L = X + (stC b (cellsS s (.slice a1 s.blocks.length c1) (.slice a2 s.kept.length c2) (.slice a3' ls.length c3') (.slice a4 s.preps.length c4) (.slice a5' d.length c5') (.slice a6 s.outs.length c6) (.slice a7 s.sess.length c7)) + h1 + h2 + h3' + h4 + h5' + h6 + h7) + ptrC b2 b + opC b3 o (.slice x1 o.parts.length y1) (.slice x2 o.reads.length y2) (.slice x3 o.writes.length y3) (.slice x4 o.data.length y4) + resC b4 + spanC b5 (covLo s o) (covHi s o) + fr + R) _
        ⟨s.locks,_,a3,c3,a5',c5',h3,h5',_,rfl,t0,o3,o5',yK.out⟩ (by repeat (first | exact zT _ | refine zO rfl ?_)) ?_
       clear o3 o5 o5' t0 hs a3 c3 a5 c5 a5' c5' h3 h5 h5'
       rintro k g L hkk ⟨ls,d,a3,c3,a5,c5,h3,h5,R,rfl,htk,o3,o5,rfl⟩
       have q1 := htk.2.1.few
       have q2 := htk.2.2.2
       have q3 := htk.2.2.1
       repeat (first | refine zF ?_ | refine zB ?_)
       refine yG rfl rfl (pv_lss rfl rfl) (fun n5 => ?_) (fun n5 => ?_)
       ·have hx : k < o.writes.length := by omega
        have hel := prepLks_w s o hx
        obtain ⟨bw,ow,rfl,ew,⟨aw,cw,rfl,_⟩,hat⟩ := r3.at hx
        have htake := take22_spec w0 (X + h4) b (.int .i64 s.lo) (.int .i64 s.hi) (.int .i64 s.epoch) (.slice a1 s.blocks.length c1) (.slice a2 s.kept.length c2) (.slice a4 s.preps.length c4) (.slice a6 s.outs.length c6) (.slice a7 s.sess.length c7) (.slice a3 ls.length c3) (.slice a5 d.length c5) ls d s.preps ⟨o.writes[k].block,o.txn,o.age,true⟩ h3 h5 o4.rd0 o3 o5 q3 (by omega) (by omega) (by omega)
        have hstep := fun he => htk.stepAt hel he
        have hbad := fun he => htk.badAt hel he
        generalize lockS ls d ⟨o.writes[k].block,o.txn,o.age,true⟩ (s.preps.map Prp.txn) = lk at htake hstep hbad
        obtain ⟨ls2,d2,er⟩ := lk
        simp only at htake hstep hbad
        repeat (first | refine zF ?_ | refine zR ?_ | refine zB ?_ | refine zE ?_ | refine zZ rfl rfl rfl rfl rfl ?_ | refine L_ld rfl rfl rfl rfl rfl ?_ | refine zP ?_ | refine zJ rfl ?_ | refine L_idx rfl rfl (by omega) rfl rfl ?_ | refine L_atA rfl (by assumption) rfl rfl rfl rfl ?_ | refine L_build (vs := [_,_,_,_]) (cells := [_,_,_,_]) rfl rfl rfl rfl ?_ | refine L_stA rfl (vs := [_,_]) rfl rfl rfl rfl (c' := [_,_]) rfl rfl ?_ | refine L_alloc (c := [_,_]) rfl rfl rfl (fun _ => ?_))
        refine zY rfl rfl (zQ rfl rfl rfl) htake ?_
        rintro _ _ ⟨E,vl',vd',h3',h5',rfl,o3',o5',rfl⟩
        obtain ⟨a3',c3',rfl⟩ := o3'.shape
        obtain ⟨a5',c5',rfl⟩ := o5'.shape
        repeat (first | refine zF ?_ | refine zB ?_ | refine zE ?_ | refine zK rfl rfl rfl ?_)
        refine yG rfl rfl (pv_neq rfl rfl) (fun n6 => ?_) (fun n6 => ?_)
        ·repeat (first | refine zF ?_ | refine zB ?_ | refine zE ?_ | refine zK rfl rfl rfl ?_ | refine zJ rfl ?_)
         refine zY rfl rfl (zQ rfl rfl rfl) (code22_spec w0 er) ?_
         rintro _ _ ⟨rfl,rfl⟩
         repeat (first | refine zE ?_ | refine zM ?_ | refine L_stA rfl (vs := [_,_]) rfl rfl rfl rfl (c' := [_,_]) rfl rfl ?_)
         rw [show prepareF s o = (ldS s ls2 d2,⟨er,[]⟩) by rw [e2,hbad n6,if_pos n6]]
         exact ⟨[_],X + E + (stC b (cellsS s (.slice a1 s.blocks.length c1) (.slice a2 s.kept.length c2) (.slice a3' ls2.length c3') (.slice a4 s.preps.length c4) (.slice a5' d2.length c5') (.slice a6 s.outs.length c6) (.slice a7 s.sess.length c7)) + h1 + h2 + h3' + h4 + h5' + h6 + h7),_,⟨⟨_,rfl,zL rfl rfl rfl⟩,trivial⟩,PostS.code (ShAt.ld (o1.mono rfl) (o2.mono rfl) o3' (o4.mono rfl) o5' (o6.mono rfl) (o7.mono rfl)),yK.out⟩
        ·repeat (first | refine zB ?_ | refine zE ?_ | refine zK rfl rfl rfl ?_ | refine zP ?_ | refine zI rfl ?_ | refine L_add rfl rfl (by omega) (by omega) rfl rfl ?_)
         exact ⟨hx,_,(by repeat (first | exact zT _ | refine zO rfl ?_)),ls2,d2,a3',c3',a5',c5',h3',h5',_,rfl,hstep (by simpa using n6),o3',o5',yK.out⟩
       ·have hkw : k = o.writes.length := by omega
        subst hkw
        repeat (first | refine zF ?_ | refine yD ?_ | refine zB ?_ | refine zE ?_ | refine zK rfl rfl rfl ?_ | refine zZ rfl rfl rfl rfl rfl ?_ | refine L_ld rfl rfl rfl rfl rfl ?_ | refine zI rfl ?_)
        refine hold_fall (fun g' L' => ∃ (ls : List Lk) (d : List Int) (a3' : Option Addr) (c3' : Nat) (a5' : Option Addr) (c5' : Nat) (h3' h5' R : Hp),Sub g' [(2,.pointer (some ⟨b2,0,none⟩)),(3,.pointer (some ⟨b3,0,none⟩)),(4,.pointer (some ⟨b4,0,none⟩)),(5,.pointer (some ⟨b5,0,none⟩))] ∧
         TkOk s o ((prepLks s o).take (o.writes.length + covN s o)) (o.writes.length + covN s o) ls d ∧ OwL w0 0 ls (.slice a3' ls.length c3') h3' ∧ OwL w0 0 d (.slice a5' d.length c5') h5' ∧ L' = X + (stC b (cellsS s (.slice a1 s.blocks.length c1) (.slice a2 s.kept.length c2) (.slice a3' ls.length c3') (.slice a4 s.preps.length c4) (.slice a5' d.length c5') (.slice a6 s.outs.length c6) (.slice a7 s.sess.length c7)) + h1 + h2 + h3' + h4 + h5' + h6 + h7) + ptrC b2 b + opC b3 o (.slice x1 o.parts.length y1) (.slice x2 o.reads.length y2) (.slice x3 o.writes.length y3) (.slice x4 o.data.length y4) + resC b4 + spanC b5 (covLo s o) (covHi s o) + fr + R) ?_ ?_
        ·repeat (refine zR ?_)
         refine hold_count (covN s o) (fun j g L => ∃ (ls : List Lk) (d : List Int) (a3' : Option Addr) (c3' : Nat) (a5' : Option Addr) (c5' : Nat) (h3' h5' R : Hp) (z : Int),g = [(2,.pointer (some ⟨b2,0,none⟩)),(3,.pointer (some ⟨b3,0,none⟩)),(4,.pointer (some ⟨b4,0,none⟩)),(5,.pointer (some ⟨b5,0,none⟩)),(10,.int .i64 z)] ∧ z = covLo s o + (j : Int) ∧
          TkOk s o ((prepLks s o).take (o.writes.length + j)) (o.writes.length + j) ls d ∧ OwL w0 0 ls (.slice a3' ls.length c3') h3' ∧ OwL w0 0 d (.slice a5' d.length c5') h5' ∧ L = X + (stC b (cellsS s (.slice a1 s.blocks.length c1) (.slice a2 s.kept.length c2) (.slice a3' ls.length c3') (.slice a4 s.preps.length c4) (.slice a5' d.length c5') (.slice a6 s.outs.length c6) (.slice a7 s.sess.length c7)) + h1 + h2 + h3' + h4 + h5' + h6 + h7) + ptrC b2 b + opC b3 o (.slice x1 o.parts.length y1) (.slice x2 o.reads.length y2) (.slice x3 o.writes.length y3) (.slice x4 o.data.length y4) + resC b4 + spanC b5 (covLo s o) (covHi s o) + fr + R) _
          ⟨ls,d,a3,c3,a5,c5,h3,h5,_,covLo s o,rfl,by simp,htk,o3,o5,yK.out⟩ (by repeat (first | exact zT _ | refine zO rfl ?_)) ?_
         clear o3 o5 htk q1 q2 q3 a3 c3 a5 c5 h3 h5 ls d R
         rintro j g L hj ⟨ls,d,a3,c3,a5,c5,h3,h5,R,z,rfl,hz,htk,o3,o5,rfl⟩
         have q1 := htk.2.1.few
         have q2 := htk.2.2.2
         have q3 := htk.2.2.1
         have hcn : (0 < o.snap → (covN s o : Int) = covHi s o - covLo s o) ∧ (¬ 0 < o.snap → covN s o = 0) := by
          unfold covN
          constructor
          ·intro h; rw [if_pos h]; omega
          ·intro h; rw [if_neg h]
         repeat (first | refine zF ?_ | refine zB ?_ | refine zZ rfl rfl rfl rfl rfl ?_ | refine L_ld rfl rfl rfl rfl rfl ?_)
         refine yG rfl rfl (pv_gtr rfl rfl) (fun n6 => ?_) (fun n6 => ?_)
         ·repeat (first | refine zK rfl rfl rfl ?_ | refine zZ rfl rfl rfl rfl rfl ?_ | refine L_ld rfl rfl rfl rfl rfl ?_)
          refine yG rfl rfl (pv_lss rfl rfl) (fun n7 => ?_) (fun n7 => ?_)
          ·have hx : j < covN s o := by have := hcn.1 n6; omega
           have hel := prepLks_r s o hx
           rw [← hz] at hel
           have htake := take22_spec w0 (X + h4) b (.int .i64 s.lo) (.int .i64 s.hi) (.int .i64 s.epoch) (.slice a1 s.blocks.length c1) (.slice a2 s.kept.length c2) (.slice a4 s.preps.length c4) (.slice a6 s.outs.length c6) (.slice a7 s.sess.length c7) (.slice a3 ls.length c3) (.slice a5 d.length c5) ls d s.preps ⟨z,o.txn,o.age,false⟩ h3 h5 o4.rd0 o3 o5 q3 (by omega) (by omega) (by omega)
           have hstep := fun he => htk.stepAt hel he
           have hbad := fun he => htk.badAt hel he
           generalize lockS ls d ⟨z,o.txn,o.age,false⟩ (s.preps.map Prp.txn) = lk at htake hstep hbad
           obtain ⟨ls2,d2,er⟩ := lk
           simp only at htake hstep hbad
           repeat (first | refine zF ?_ | refine zR ?_ | refine zB ?_ | refine zE ?_ | refine zK rfl rfl rfl ?_ | refine zZ rfl rfl rfl rfl rfl ?_ | refine L_ld rfl rfl rfl rfl rfl ?_ | refine zP ?_ | refine zJ rfl ?_ | refine L_build (vs := [_,_,_]) (cells := [_,_,_,_]) rfl rfl rfl rfl ?_)
           refine zY rfl rfl (zQ rfl rfl rfl) htake ?_
           rintro _ _ ⟨E,vl',vd',h3',h5',rfl,o3',o5',rfl⟩
           obtain ⟨a3',c3',rfl⟩ := o3'.shape
           obtain ⟨a5',c5',rfl⟩ := o5'.shape
           repeat (first | refine zF ?_ | refine zB ?_ | refine zE ?_ | refine zK rfl rfl rfl ?_)
           refine yG rfl rfl (pv_neq rfl rfl) (fun n8 => ?_) (fun n8 => ?_)
           ·repeat (first | refine zF ?_ | refine zB ?_ | refine zE ?_ | refine zK rfl rfl rfl ?_ | refine zJ rfl ?_)
            refine zY rfl rfl (zQ rfl rfl rfl) (code22_spec w0 er) ?_
            rintro _ _ ⟨rfl,rfl⟩
            repeat (first | refine zE ?_ | refine zM ?_ | refine L_stA rfl (vs := [_,_]) rfl rfl rfl rfl (c' := [_,_]) rfl rfl ?_)
            rw [show prepareF s o = (ldS s ls2 d2,⟨er,[]⟩) by rw [e2,hbad n8,if_pos n8]]
            exact ⟨[_],X + E + (stC b (cellsS s (.slice a1 s.blocks.length c1) (.slice a2 s.kept.length c2) (.slice a3' ls2.length c3') (.slice a4 s.preps.length c4) (.slice a5' d2.length c5') (.slice a6 s.outs.length c6) (.slice a7 s.sess.length c7)) + h1 + h2 + h3' + h4 + h5' + h6 + h7),_,⟨⟨_,rfl,zL rfl rfl rfl⟩,trivial⟩,PostS.code (ShAt.ld (o1.mono rfl) (o2.mono rfl) o3' (o4.mono rfl) o5' (o6.mono rfl) (o7.mono rfl)),yK.out⟩
           ·repeat (first | refine zB ?_ | refine zE ?_ | refine zK rfl rfl rfl ?_ | refine zP ?_ | refine zI rfl ?_ | refine L_add rfl rfl (by omega) (by omega) rfl rfl ?_)
            exact ⟨hx,_,(by repeat (first | exact zT _ | refine zO rfl ?_)),ls2,d2,a3',c3',a5',c5',h3',h5',_,z + 1,rfl,by omega,hstep (by simpa using n8),o3',o5',yK.out⟩
          ·have hjn : j = covN s o := by have := hcn.1 n6; omega
           subst hjn
           repeat (first | refine yD ?_ | refine zE ?_ | refine zK rfl rfl rfl ?_ | refine zI rfl ?_)
           exact ⟨ls,d,a3,c3,a5,c5,h3,h5,_,(by repeat (first | exact zT _ | refine zO rfl ?_)),htk,o3,o5,yK.out⟩
         ·have hjn : j = covN s o := by have := hcn.2 n6; omega
          subst hjn
          repeat (first | refine yD ?_ | refine zE ?_ | refine zK rfl rfl rfl ?_ | refine L_skip rfl rfl ?_ | refine zI rfl ?_)
          exact ⟨ls,d,a3,c3,a5,c5,h3,h5,_,(by repeat (first | exact zT _ | refine zO rfl ?_)),htk,o3,o5,yK.out⟩
        ·clear o3 o5 htk q1 q2 q3 a3 c3 a5 c5 h3 h5 ls d R
         rintro g' _ ⟨ls,d,a3,c3,a5,c5,h3,h5,R,hsub,htk,o3,o5,rfl⟩
         refine hold_env hsub ?_
         clear hsub g'
         have e3 : prepareF s o = ({ ldS s ls d with preps := insP s.preps (prepOf o) },⟨0,[]⟩) := by
          rw [e2]
          have := htk.1
          rw [List.take_of_length_le (by rw [prepLks_len]; exact Nat.le_refl _)] at this
          rw [this,if_neg (by simp)]
         rw [e3]
         repeat (first | refine zF ?_ | refine zB ?_ | refine zE ?_ | refine zZ rfl rfl rfl rfl rfl ?_ | refine L_ld rfl rfl rfl rfl rfl ?_ | refine L_build (vs := [_,_,_,_,_,_,_]) (cells := [_,_,_,_,_,_,_]) rfl rfl rfl rfl ?_ | refine L_stA rfl (vs := [_,_,_,_,_,_,_]) rfl rfl rfl rfl (c' := [_,_,_,_,_,_,_]) rfl rfl ?_ | refine L_alloc (c := [_,_,_,_,_,_,_]) rfl rfl rfl (fun _ => ?_))
         rename_i bp
         have hbs := binarySearchFuncPrp_spec w0 (X + h4) (.slice a4 s.preps.length c4) (.int .i64 o.txn) (.int .i64 o.age) (.int .i64 o.snap) (.int .i64 o.lo) (.int .i64 o.hi) (.slice x1 o.parts.length y1) (.slice x3 o.writes.length y3) s.preps 199 [] (fun p => cmpI p.txn o.txn) o4.rd0 (by omega)
          (fun Y x e hx he => Spec.frameL (hzero_add _).symm (prepare2_spec w0 x (prepOf o) e (.slice x1 o.parts.length y1) (.slice x3 o.writes.length y3) Y he))
         refine yC [6] [0,1,2,3,4,5,6,7,8,9,10,11] (by kernel_rfl) rfl (by kernel_rfl) (by kernel_rfl) ?_
         repeat (first | refine yI rfl rfl rfl rfl rfl ?_ | refine yE rfl rfl rfl rfl (yA rfl rfl rfl) ?_ | refine W_load rfl rfl rfl rfl (yF rfl) (zG rfl (zS rfl)) ?_ | refine W_load rfl rfl rfl rfl (yF rfl) (zL (vs := [_,_,_,_,_,_,_]) rfl rfl rfl) ?_)
         refine W_call rfl rfl rfl rfl (zQ rfl rfl rfl) hbs (Kept.all _) ?_
         rintro _ _ ⟨i,rfl,hb,rfl⟩
         refine ⟨(by repeat (first | exact trivial | exact zG rfl (zS rfl) | exact zL rfl rfl rfl | exact zX rfl (by assumption) rfl | exact zH rfl (by assumption) rfl | exact zH rfl (by assumption) (by assumption) | refine ⟨?_,?_⟩)),?_⟩
         repeat (first | refine yJ ?_ | refine yI rfl rfl rfl rfl rfl ?_)
         have hnp : ∀ p ∈ s.preps,p.txn ≠ o.txn := by
          intro p hp ht
          apply e1
          exact List.any_eq_true.2 ⟨p,hp,decide_eq_true ht⟩
         simp only [cmpI_neg] at hb
         have hfd : foundAt (fun p : Prp => p.txn - o.txn) s.preps i = false := by
          unfold foundAt
          split
          ·rename_i hi
           exact decide_eq_false (show ¬ (s.preps[i].txn - o.txn = 0) by have := hnp _ (List.getElem_mem hi); omega)
          ·rfl
         obtain ⟨m1,m2,_⟩ := bs_missed (key := Prp.txn) hk.preps hb hfd
         have hbi := hb.1
         obtain ⟨es,w1,w2⟩ := id o4
         have hnew : Rep.rd w0 X (prepOf o) [.int .i64 o.txn,.int .i64 o.age,.int .i64 o.snap,.int .i64 o.lo,.int .i64 o.hi,.slice x1 o.parts.length y1,.slice x3 o.writes.length y3] := ⟨x1,y1,x3,y3,rfl,r1,r3⟩
         have hel := w2.length
         repeat (refine zF ?_)
         refine yC [8,9,13] [0,1,2,3,4,5,6,7,8,9,10,11,12,13] (by kernel_rfl) rfl (by kernel_rfl) (by kernel_rfl) ?_
         repeat (first | refine yI rfl rfl rfl rfl rfl ?_ | refine yE rfl rfl rfl rfl (yA rfl rfl rfl) ?_ | refine W_load rfl rfl rfl rfl (yF rfl) (zG rfl (zS rfl)) ?_ | refine W_load rfl rfl rfl rfl (yF rfl) (zL (vs := [_,_,_,_,_,_,_]) rfl rfl rfl) ?_)
         refine W_eff rfl rfl rfl rfl (ev_buildSlice (vs := [_]) (cells := [_,_,_,_,_,_,_]) rfl rfl rfl rfl) (Kept.all _) ?_
         rintro _ _ ⟨bn,rfl,rfl⟩
         refine ⟨(by repeat (first | exact trivial | exact zG rfl (zS rfl) | exact zL rfl rfl rfl | exact zX rfl (by assumption) rfl | exact zH rfl (by assumption) rfl | exact zH rfl (by assumption) (by assumption) | refine ⟨?_,?_⟩)),?_⟩
         refine W_call rfl rfl rfl rfl (zQ rfl rfl rfl) (insertAtPrp_spec w0 es _ h4 bn i _ w1 (by omega) w2.ones (Rep.len hnew) (Rep.one hnew) (by omega)) (Kept.all _) ?_
         rintro vp2 h4' hrow
         refine ⟨(by repeat (first | exact trivial | exact zG rfl (zS rfl) | exact zL rfl rfl rfl | exact zX rfl (by assumption) rfl | exact zH rfl (by assumption) rfl | exact zH rfl (by assumption) (by assumption) | refine ⟨?_,?_⟩)),?_⟩
         have o4' : OwL w0 X (insP s.preps (prepOf o)) vp2 h4' := by
          have hc : All2 (Rep.rd w0 X) (prepOf o :: s.preps.drop i) (_ :: es.drop i) := ⟨hnew,w2.drop i⟩
          have := (w2.take i).append hc
          rw [m1,m2] at this
          exact ⟨_,hrow,this⟩
         obtain ⟨a4',c4',rfl⟩ := o4'.shape
         repeat (first | refine yI rfl rfl rfl rfl rfl ?_ | refine yE rfl rfl rfl rfl (yA rfl rfl rfl) ?_)
         refine W_eff (W' := ?wk1) rfl rfl rfl rfl (ev_store rfl rfl rfl rfl rfl (c' := [_,_,_,_,_,_,_,_,_,_]) rfl) ?wkk1 ?wrest1
         case wkk1 => repeat (first | exact Kept.nil | refine Kept.drop (by kernel_rfl) ?_ | refine Kept.keep ?_)
         rintro _ _ rfl
         refine ⟨(by repeat (first | exact trivial | exact zG rfl (zS rfl) | exact zL rfl rfl rfl | exact zX rfl (by assumption) rfl | exact zH rfl (by assumption) rfl | exact zH rfl (by assumption) (by assumption) | refine ⟨?_,?_⟩)),?_⟩
         repeat (refine yJ ?_)
         repeat (first | refine zF ?_ | refine zB ?_)
         refine zY rfl rfl (zQ rfl rfl rfl) (code22_spec w0 0) ?_
         rintro _ _ ⟨rfl,rfl⟩
         repeat (first | refine zE ?_ | refine zM ?_ | refine L_stA rfl (vs := [_,_]) rfl rfl rfl rfl (c' := [_,_]) rfl rfl ?_)
         exact ⟨[_],X + (stC b (cellsS s (.slice a1 s.blocks.length c1) (.slice a2 s.kept.length c2) (.slice a3 ls.length c3) (.slice a4' (insP s.preps (prepOf o)).length c4') (.slice a5 d.length c5) (.slice a6 s.outs.length c6) (.slice a7 s.sess.length c7)) + h1 + h2 + h3 + h4' + h5 + h6 + h7),_,⟨⟨_,rfl,zL rfl rfl rfl⟩,trivial⟩,
          PostS.same (s := { ldS s ls d with preps := insP s.preps (prepOf o) }) ⟨a1,c1,a2,c2,a3,c3,a4',c4',a5,c5,a6,c6,a7,c7,h1,h2,h3,h4',h5,h6,h7,o1,o2,o3,o4',o5,o6,o7,rfl⟩,yK.out⟩
end Sl
end Go.Proofs.YtpkealohodeifaaGreat
namespace Go.Proofs.YtpkealohodeifaaGreat
open Go Go.RowKit
namespace Sl
section
variable {β : Type}
structure Ordr (lt : β → β → Prop) : Prop where
 asym : ∀ {a b},lt a b → ¬ lt b a
 le : ∀ {a b c},¬ lt b a → ¬ lt c b → ¬ lt c a
def Srt (lt : β → β → Prop) (l : List β) : Prop := l.Pairwise fun a b => ¬ lt b a
variable {lt : β → β → Prop}
theorem srt_one (x : β) : Srt lt [x] := List.pairwise_singleton _ _
theorem srt_app {l m : List β} : Srt lt (l ++ m) ↔ Srt lt l ∧ Srt lt m ∧ ∀ a ∈ l,∀ b ∈ m,¬ lt b a := List.pairwise_append
theorem srt_take {l : List β} (h : Srt lt l) (n : Nat) : Srt lt (l.take n) := h.sublist (List.take_sublist _ _)
theorem srt_drop {l : List β} (h : Srt lt l) (n : Nat) : Srt lt (l.drop n) := h.sublist (List.drop_sublist _ _)
theorem srt_idx {l : List β} (h : Srt lt l) {i j : Nat} (hj : j < l.length) (hij : i < j) : ¬ lt l[j] (l[i]'(by omega)) := (List.pairwise_iff_getElem.1 h) i j (by omega) hj hij
theorem Ordr.irr (o : Ordr lt) (a : β) : ¬ lt a a := fun h => o.asym h h
theorem srt_idx' (o : Ordr lt) {l : List β} (h : Srt lt l) {i j : Nat} (hj : j < l.length) (hij : i ≤ j) : ¬ lt l[j] (l[i]'(by omega)) := by
 rcases Nat.lt_or_eq_of_le hij with h1 | h1
 ·exact srt_idx h hj h1
 ·subst h1; exact o.irr _
theorem srt_mid {l m : List β} {x : β} (hs : Srt lt (l ++ m)) (h1 : ∀ a ∈ l,¬ lt x a) (h2 : ∀ b ∈ m,¬ lt b x) : Srt lt (l ++ x :: m) := by
 obtain ⟨s1,s2,s3⟩ := srt_app.1 hs
 refine srt_app.2 ⟨s1,List.pairwise_cons.2 ⟨h2,s2⟩,?_⟩
 intro a ha b hb
 rcases List.mem_cons.1 hb with rfl | hb
 ·exact h1 a ha
 ·exact s3 a ha b hb
theorem all_le_last (o : Ordr lt) {l : List β} (hs : Srt lt l) {x : β} (h : ∀ h : 0 < l.length,¬ lt x (l[l.length - 1])) : ∀ a ∈ l,¬ lt x a := by
 intro a ha
 obtain ⟨i,hi,rfl⟩ := List.getElem_of_mem ha
 exact o.le (srt_idx' o hs (j := l.length - 1) (by omega) (by omega)) (h (by omega))
theorem head_le_all (o : Ordr lt) {l : List β} (hs : Srt lt l) {x : β} (h : ∀ h : 0 < l.length,¬ lt l[0] x) : ∀ a ∈ l,¬ lt a x := by
 intro a ha
 obtain ⟨i,hi,rfl⟩ := List.getElem_of_mem ha
 exact o.le (h (by omega)) (srt_idx' o hs hi (Nat.zero_le _))
theorem cut_lo (o : Ordr lt) {U V : List β} (hu : Srt lt U) (hv : Srt lt V) {i j : Nat} (hi : i ≤ U.length) (hj : j ≤ V.length)
  (h : i = 0 ∨ j = V.length ∨ ∃ (h1 : i - 1 < U.length) (h2 : j < V.length),¬ lt V[j] U[i - 1]) : ∀ a ∈ U.take i,∀ b ∈ V.drop j,¬ lt b a := by
 rcases h with rfl | rfl | ⟨h1,h2,h3⟩
 ·simp
 ·simp
 ·rcases Nat.eq_zero_or_pos i with rfl | hpos
  ·simp
  intro a ha b hb
  refine o.le (b := V[j]) ?_ (head_le_all o (srt_drop hv j) (fun h0 => by simpa using o.irr _) b hb)
  refine all_le_last o (srt_take hu i) (fun h0 => ?_) a ha
  have e : (U.take i)[(U.take i).length - 1]'(by omega) = U[i - 1] := by
   rw [List.getElem_take]
   congr 1
   rw [List.length_take]; omega
  rw [e]; exact h3
theorem cut_hi (o : Ordr lt) {U V : List β} (hu : Srt lt U) (hv : Srt lt V) {i j : Nat} (hi : i ≤ U.length) (hj : j ≤ V.length)
  (h : j = 0 ∨ i = U.length ∨ ∃ (h1 : j - 1 < V.length) (h2 : i < U.length),lt V[j - 1] U[i]) : ∀ a ∈ V.take j,∀ b ∈ U.drop i,¬ lt b a := by
 refine cut_lo o hv hu hj hi ?_
 rcases h with h | h | ⟨h1,h2,h3⟩
 ·exact .inl h
 ·exact .inr (.inl h)
 ·exact .inr (.inr ⟨h1,h2,o.asym h3⟩)
theorem srt_join {U V W1 W2 : List β} {i j : Nat} (h1 : W1.Perm (U.take i ++ V.take j)) (h2 : W2.Perm (U.drop i ++ V.drop j)) (s1 : Srt lt W1) (s2 : Srt lt W2)
  (hu : Srt lt U) (hv : Srt lt V) (hlo : ∀ a ∈ U.take i,∀ b ∈ V.drop j,¬ lt b a) (hhi : ∀ a ∈ V.take j,∀ b ∈ U.drop i,¬ lt b a) : Srt lt (W1 ++ W2) ∧ (W1 ++ W2).Perm (U ++ V) := by
 refine ⟨srt_app.2 ⟨s1,s2,?_⟩,?_⟩
 ·intro a ha b hb
  have ha := h1.mem_iff.1 ha
  have hb := h2.mem_iff.1 hb
  have hu2 := (srt_app.1 (by rw [List.take_append_drop]; exact hu : Srt lt (U.take i ++ U.drop i))).2.2
  have hv2 := (srt_app.1 (by rw [List.take_append_drop]; exact hv : Srt lt (V.take j ++ V.drop j))).2.2
  rcases List.mem_append.1 ha with ha | ha <;> rcases List.mem_append.1 hb with hb | hb
  ·exact hu2 a ha b hb
  ·exact hlo a ha b hb
  ·exact hhi a ha b hb
  ·exact hv2 a ha b hb
 ·refine (h1.append h2).trans ?_
  have e : U ++ V = (U.take i ++ U.drop i) ++ (V.take j ++ V.drop j) := by rw [List.take_append_drop,List.take_append_drop]
  rw [e,List.append_assoc,List.append_assoc,← List.append_assoc (V.take j),← List.append_assoc (U.drop i)]
  exact List.Perm.append_left _ (List.Perm.append_right _ List.perm_append_comm)
inductive Full (lt : β → β → Prop) (s : Nat) : List β → Prop
 | nil : Full lt s []
 | snoc {l x : List β} : Full lt s l → x.length = s → Srt lt x → Full lt s (l ++ x)
inductive Chunks (lt : β → β → Prop) (s : Nat) : List β → Prop
 | last {x : List β} : x.length ≤ s → Srt lt x → Chunks lt s x
 | cons {x l : List β} : x.length = s → Srt lt x → Chunks lt s l → Chunks lt s (x ++ l)
theorem Full.chunks {s : Nat} {l : List β} (h : Full lt s l) : ∀ {r : List β},Chunks lt s r → Chunks lt s (l ++ r) := by
 induction h with
 | nil => intro r hr; exact hr
 | snoc h1 h2 h3 ih => intro r hr; rw [List.append_assoc]; exact ih (.cons h2 h3 hr)
theorem Chunks.whole {s : Nat} {l : List β} (h : Chunks lt s l) (hs : l.length ≤ s) (h0 : 0 < s) : Srt lt l := by
 cases h with
 | last h1 h2 => exact h2
 | cons h1 h2 h3 =>
  rename_i x r
  rw [List.length_append] at hs
  have : r = [] := List.eq_nil_of_length_eq_zero (by omega)
  subst this
  rw [List.append_nil]; exact h2
theorem Chunks.first {s : Nat} {l : List β} (h : Chunks lt s l) (hs : s < l.length) : ∃ x r,l = x ++ r ∧ x.length = s ∧ Srt lt x ∧ Chunks lt s r := by
 cases h with
 | last h1 h2 => omega
 | cons h1 h2 h3 => exact ⟨_,_,rfl,h1,h2,h3⟩
end
end Sl
end Go.Proofs.YtpkealohodeifaaGreat
namespace Go.Proofs.YtpkealohodeifaaGreat
open Go Go.RowKit
namespace Sl
set_option maxHeartbeats 4000000
set_option maxRecDepth 4000
attribute [local irreducible] Hold HoldL HoldW
def spanB (lo hi : Int) (k : Lk) : Bool := decide (lo ≤ k.block) && decide (k.block < hi)
def ofL (l : List Lk) (lo hi : Int) : List Int := (l.filter (spanB lo hi)).map Lk.txn
theorem ofL_le (l : List Lk) (lo hi : Int) : (ofL l lo hi).length ≤ l.length := by unfold ofL; rw [List.length_map]; exact List.length_filter_le _ _
theorem ofL_succ {l : List Lk} {lo hi : Int} {i : Nat} (h : i < l.length) : ofL (l.take (i + 1)) lo hi = ofL (l.take i) lo hi ++ (if spanB lo hi l[i] = true then [l[i].txn] else []) := by
 unfold ofL
 rw [List.take_succ_eq_append_getElem h,List.filter_append,List.map_append]
 congr 1
 by_cases hc : spanB lo hi l[i] = true <;> simp [hc]
theorem of20_spec (w0 : World) (X : Hp) (v : Value) (l : List Lk) (lo hi : Int) (hv : RdRow w0 X 4 v (encL l)) (hl : l.length ≤ 1000000) :
  Spec Tryz.prog w0 207 [v,.agg [.int .i64 lo,.int .i64 hi].toArray] X (fun r h' => ∃ h,isRow 3 1 (enc1 (compI (sortI (ofL l lo hi)))) r h ∧ X + h = h') := by
 obtain ⟨a,c,rfl,ha⟩ := id hv
 rw [encL_length] at *
 refine zN Tryz.func207 rfl Tryz.ntmps207 Tryz.results207 rfl fun fr => ?_
 repeat (first | refine zF ?_ | refine zB ?_)
 refine L_box rfl (c := [_,_]) rfl rfl rfl (fun b3 => ?_)
 repeat (first | refine zF ?_ | refine zR ?_ | refine zB ?_ | refine zE ?_ | refine zK rfl rfl rfl ?_ | refine L_len rfl rfl rfl ?_)
 refine hold_loop (fun m g L => ∃ (i : Nat) (vo : Value) (h R : Hp),i ≤ l.length ∧ m = l.length - i ∧ g = [(3,.pointer (some ⟨b3,0,none⟩)),(5,vo),(8,.slice a l.length c),(9,.int .i64 l.length),(10,.int .i64 i)] ∧ isRow 3 1 (enc1 (ofL (l.take i) lo hi)) vo h ∧
   L = X + h + pt b3 (.cells [.int .i64 lo,.int .i64 hi].toArray 70 (0,0)) + fr + R) _ _
  ⟨0,.slice none 0 0,0,0,by omega,rfl,rfl,isRow_empty _ _ _,by simp only [yB]; first | rfl | ac_rfl⟩ (by repeat (first | exact zT _ | refine zO rfl ?_)) ?_
 rintro m g L ⟨i,vo,h,R,hi',rfl,rfl,hro,rfl⟩
 repeat (first | refine zF ?_ | refine zB ?_)
 refine yG rfl rfl (pv_lss rfl rfl) (fun n1 => ?_) (fun n1 => ?_)
 ·have hx : i < l.length := by omega
  obtain ⟨b2,o2,rfl,hc2⟩ := ha.2 i _ (encL_at hx)
  have hsu := ofL_succ (lo := lo) (hi := hi) hx
  repeat (first | refine zF ?_ | refine zR ?_ | refine zB ?_ | refine zE ?_ | refine zP ?_ | refine zJ rfl ?_)
  refine yH rfl rfl (pv_indexAddr rfl rfl hx) ?_
  refine L_load rfl rfl (yF rfl) (loads_aggR rfl [_,_,_,_] rfl (fun j u hj => (hc2 j u hj).frame)) ?_
  refine L_alloc (c := [_,_,_,_]) rfl rfl rfl (fun b7 => ?_)
  repeat (first | refine zF ?_ | refine zB ?_ | refine zE ?_ | refine zZ rfl rfl rfl rfl rfl ?_ | refine L_ld rfl rfl rfl rfl rfl ?_ | refine L_stA rfl (vs := [_,_,_,_]) rfl rfl rfl rfl (c' := [_,_,_,_]) rfl rfl ?_)
  refine yG rfl rfl (pv_geq rfl rfl) (fun n2 => ?_) (fun n2 => ?_)
  ·repeat (first | refine zK rfl rfl rfl ?_ | refine zZ rfl rfl rfl rfl rfl ?_ | refine L_ld rfl rfl rfl rfl rfl ?_)
   refine yG rfl rfl (pv_lss rfl rfl) (fun n3 => ?_) (fun n3 => ?_)
   ·rw [if_pos (by simp [spanB,n2,n3])] at hsu
    repeat (first | refine zB ?_ | refine zE ?_ | refine zK rfl rfl rfl ?_ | refine zZ rfl rfl rfl rfl rfl ?_ | refine L_ld rfl rfl rfl rfl rfl ?_ | refine zJ rfl ?_)
    refine L_eff rfl rfl (ev_buildSlice (vs := [_]) (cells := [_]) rfl rfl rfl rfl) ?_
    rintro _ _ ⟨b4,rfl,rfl⟩
    refine L_eff rfl rfl (ev_append (xs := enc1 (ofL (l.take i) lo hi)) (h := h) (ns := enc1 [l[i].txn]) rfl rfl hro (rd_one rfl) (enc1_one _) rfl rfl rfl (by have := ofL_le (l.take i) lo hi; rw [List.length_take] at this; simp only [enc1_length]; simp; omega)) ?_
    rintro vo2 _ ⟨h2,hro2,rfl⟩
    rw [show enc1 (ofL (l.take i) lo hi) ++ enc1 [l[i].txn] = enc1 (ofL (l.take (i + 1)) lo hi) by rw [hsu]; simp only [enc1,List.map_append]] at hro2
    repeat (first | refine zB ?_ | refine zE ?_ | refine zK rfl rfl rfl ?_ | refine L_add rfl rfl (by omega) (by omega) rfl rfl ?_)
    exact ⟨l.length - (i + 1),_,by omega,(by repeat (first | exact zT _ | refine zO rfl ?_)),i + 1,vo2,h2,_,by omega,rfl,rfl,hro2,yK.out⟩
   ·rw [if_neg (by simp [spanB,n2,n3]),List.append_nil] at hsu
    repeat (first | refine zB ?_ | refine zE ?_ | refine zK rfl rfl rfl ?_ | refine zP ?_ | refine zI rfl ?_ | refine L_add rfl rfl (by omega) (by omega) rfl rfl ?_)
    exact ⟨l.length - (i + 1),_,by omega,(by repeat (first | exact zT _ | refine zO rfl ?_)),i + 1,vo,h,_,by omega,rfl,rfl,by rw [hsu]; exact hro,yK.out⟩
  ·rw [if_neg (by simp [spanB,n2]),List.append_nil] at hsu
   repeat (first | refine zB ?_ | refine zE ?_ | refine zK rfl rfl rfl ?_ | refine L_skip rfl rfl ?_ | refine zP ?_ | refine zI rfl ?_ | refine L_add rfl rfl (by omega) (by omega) rfl rfl ?_)
   exact ⟨l.length - (i + 1),_,by omega,(by repeat (first | exact zT _ | refine zO rfl ?_)),i + 1,vo,h,_,by omega,rfl,rfl,by rw [hsu]; exact hro,yK.out⟩
 ·rw [List.take_of_length_le (by omega)] at hro
  have hle := ofL_le l lo hi
  repeat (first | refine zF ?_ | refine yD ?_ | refine zB ?_ | refine zE ?_ | refine zK rfl rfl rfl ?_ | refine zI rfl ?_)
  refine zY rfl rfl (zQ rfl rfl rfl) (sort_spec w0 vo _ h hro (by omega)) ?_
  rintro _ h2 hr2
  repeat (first | refine zF ?_ | refine zB ?_ | refine zE ?_ | refine zK rfl rfl rfl ?_)
  refine zY rfl rfl (zQ rfl rfl rfl) (compact_spec w0 vo _ h2 hr2 (by rw [sortI_length]; omega)) ?_
  rintro vo3 h3 hr3
  repeat (first | refine zE ?_ | refine zK rfl rfl rfl ?_ | refine zM ?_)
  exact ⟨[_],X + h3,_,⟨rfl,trivial⟩,⟨h3,hr3,rfl⟩,yK.out⟩
end Sl
end Go.Proofs.YtpkealohodeifaaGreat
namespace Go.Proofs.YtpkealohodeifaaGreat
open Go Go.RowKit
namespace Sl
set_option maxRecDepth 4000
instance (l : List Blk) : Decidable (OkB l) := by unfold OkB; infer_instance
instance (l : List Kpt) : Decidable (OkK l) := by unfold OkK; infer_instance
def wroteB (bs : List Blk) (ws : List Wr) : List Blk := ws.foldl (fun l w => setB l w.block w.data) bs
def keptAll (ks : List Kpt) (snap : Int) (bs : List Blk) (ns : List Int) : List Kpt := ns.foldl (fun k n => keepK k snap n (getB bs n)) ks
def commitS (s : Shd) (p : Prp) : Shd := { s with blocks := wroteB s.blocks p.writes,kept := keptAll s.kept p.snap (wroteB s.blocks p.writes) (mineF s.locks p) }
def unprepS (s : Shd) (t : Int) : Shd := { s with preps := s.preps.filter fun p => !isTx t p }
def decide1 (s : Shd) (o : Opn) : Shd := match s.preps.find? (isTx o.txn) with
 | some p => unprepS (if o.value = 1 then commitS s p else s) o.txn
 | none => s
def decideF (s : Shd) (o : Opn) : Shd × Res := (if isPrep s o.txn = true ∨ o.value = 2 then endS (decide1 s o) o.txn else decide1 s o,⟨0,[]⟩)
def endAll (s : Shd) (ts : List Int) : Shd := { s with locks := withoutL s.locks ts,dead := endD s.dead ts }
def partE (l : List Blk) (k : List Kpt) : List Bt := encL' encBlk l ++ encL' encKpt k
def ofS (s : Shd) (lo hi : Int) : List Int := compI (sortI (ofL s.locks lo hi))
def inK (lo hi : Int) (k : Kpt) : Bool := inS lo hi k.no
def partData (s : Shd) (lo hi : Int) : List Bt := partE (s.blocks.filter fun x => inS lo hi x.no) (s.kept.filter (inK lo hi))
def goneS (s : Shd) (lo hi : Int) : Shd := { s with
 lo := if lo = s.lo ∧ hi = s.hi then 0 else if lo = s.lo then hi else s.lo
 hi := if lo = s.lo ∧ hi = s.hi then 0 else if lo = s.lo then s.hi else lo
 blocks := s.blocks.filter fun x => !inS lo hi x.no
 kept := s.kept.filter fun x => !inK lo hi x }
def isOut (e : Int) (u : Outp) : Bool := decide (u.epoch = e)
def freezeF (s : Shd) (o : Opn) : Shd × Res := match s.outs.find? (isOut o.epoch) with
 | some u => (s,⟨0,u.data⟩)
 | none =>
  if o.epoch ≤ s.epoch then (s,⟨26,[]⟩)
  else if o.lo < s.lo ∨ s.hi < o.hi ∨ (o.lo ≠ s.lo ∧ o.hi ≠ s.hi) then (s,⟨3,[]⟩)
  else if (ofS s o.lo o.hi).any (isPrep s) = true then (s,⟨11,[]⟩)
  else ({ goneS (endAll s (ofS s o.lo o.hi)) o.lo o.hi with epoch := o.epoch,outs := s.outs ++ [⟨o.epoch,o.lo,o.hi,partData s o.lo o.hi⟩] },⟨0,partData s o.lo o.hi⟩)
def insK (x : Kpt) : List Kpt → List Kpt
 | [] => [x]
 | y :: l => if ltK y x then y :: insK x l else x :: y :: l
def sortK (l : List Kpt) : List Kpt := l.foldr insK []
def PartOk (lo hi : Int) (l : List Blk) (k : List Kpt) : Prop := OkB l ∧ (∀ b ∈ l,inS lo hi b.no = true) ∧ OkK k ∧ ∀ x ∈ k,(0 ≤ x.no ∧ x.no < 64) ∧ inS lo hi x.no = true
instance (lo hi : Int) (l : List Blk) (k : List Kpt) : Decidable (PartOk lo hi l k) := by unfold PartOk; infer_instance
def partB (d : List Bt) : List Blk × St2 := listV oneBlk 16 (⟨d,false⟩,false)
def partK (d : List Bt) : List Kpt × St2 := listV oneKpt 24 ((partB d).2.1,false)
def partF (d : List Bt) (lo hi : Int) : Option (List Blk × List Kpt) :=
 if endV (partK d).2.1 = 0 ∧ PartOk lo hi (partB d).1 (partK d).1 then some ((partB d).1,(partK d).1) else none
def comeS (s : Shd) (o : Opn) (l : List Blk) (k : List Kpt) : Shd := { s with
 lo := min (if s.lo = s.hi then o.lo else s.lo) o.lo,hi := max (if s.lo = s.hi then o.hi else s.hi) o.hi,epoch := o.epoch,blocks := joinB s.blocks l,kept := sortK (s.kept ++ k) }
def installF (s : Shd) (o : Opn) : Shd × Res :=
 if o.epoch = s.epoch then (s,⟨0,[]⟩) else if o.epoch < s.epoch then (s,⟨26,[]⟩)
 else if s.lo ≠ s.hi ∧ o.hi ≠ s.lo ∧ o.lo ≠ s.hi then (s,⟨3,[]⟩)
 else match partF o.data o.lo o.hi with
  | none => (s,⟨4,[]⟩)
  | some (l,k) => (comeS s o l k,⟨0,[]⟩)
def dropF (s : Shd) (o : Opn) : Shd × Res := ({ s with outs := s.outs.filter fun u => !isOut o.epoch u },⟨0,[]⟩)
def doesK (k : Int) : Prop := 1 ≤ k ∧ k ≤ 7 ∧ k ≠ 4
instance (k : Int) : Decidable (doesK k) := by unfold doesK; infer_instance
def stepF (s : Shd) (o : Opn) : Shd × Res :=
 if o.kind = 1 then readF s o else if o.kind = 2 then prepareF s o else if o.kind = 3 then decideF s o else if o.kind = 5 then freezeF s o else if o.kind = 6 then installF s o else dropF s o
def noteS (s : Shd) (o : Opn) (r : Res) : Shd := { s with sess := noteF s.sess o.client o.seq r }
def applyF (s : Shd) (o : Opn) : Shd × Res :=
 if checkF o ≠ 0 then (s,⟨checkF o,[]⟩)
 else if ¬ doesK o.kind then (s,⟨13,[]⟩)
 else if (askF s.sess o.client o.seq).2 = 7 then (s,(askF s.sess o.client o.seq).1)
 else if (askF s.sess o.client o.seq).2 = 15 then (s,⟨15,[]⟩)
 else (noteS (stepF s o).1 o (stepF s o).2,(stepF s o).2)
end Sl
end Go.Proofs.YtpkealohodeifaaGreat
namespace Go.Proofs.YtpkealohodeifaaGreat
open Go Go.RowKit
namespace Sl
set_option maxRecDepth 4000
theorem hasL_iff {l : List Lk} {t b : Int} {w : Bool} : hasL l t b w = true ↔ ∃ x ∈ l,x.block = b ∧ x.txn = t ∧ (w = true → x.write = true) := by
 unfold hasL
 rw [List.any_eq_true]
 constructor
 ·rintro ⟨x,hx,h⟩
  simp only [hasP,Bool.and_eq_true,decide_eq_true_eq,Bool.or_eq_true,Bool.not_eq_true'] at h
  refine ⟨x,hx,h.1.1,h.1.2,fun hw => ?_⟩
  rcases h.2 with h | h
  ·exact h
  ·rw [hw] at h; cases h
 ·rintro ⟨x,hx,h1,h2,h3⟩
  refine ⟨x,hx,?_⟩
  simp only [hasP,Bool.and_eq_true,decide_eq_true_eq,Bool.or_eq_true,Bool.not_eq_true']
  refine ⟨⟨h1,h2⟩,?_⟩
  cases w
  ·exact .inr rfl
  ·exact .inl (h3 rfl)
theorem hasL_without {l : List Lk} {ts : List Int} {t b : Int} {w : Bool} (ht : t ∉ ts) : hasL (withoutL l ts) t b w = hasL l t b w := by
 rw [Bool.eq_iff_iff,hasL_iff,hasL_iff]
 constructor
 ·rintro ⟨x,hx,h⟩; exact ⟨x,(mem_withoutL.1 hx).1,h⟩
 ·rintro ⟨x,hx,h1,h2,h3⟩; exact ⟨x,mem_withoutL.2 ⟨hx,by rw [h2]; exact ht⟩,h1,h2,h3⟩
theorem Laid.from {l r : List Lk} {k : Lk} (h : Laid l k r) {x : Lk} (hx : x ∈ r) : x = k ∨ ∃ y ∈ l,y.block = x.block ∧ y.txn = x.txn ∧ y.age = x.age := by
 rcases h with ⟨n,hn,h1,h2,rfl⟩ | ⟨_,⟨n,hn,h1,h2,rfl⟩ | ⟨_,rfl⟩⟩
 ·rcases List.mem_or_eq_of_mem_set hx with hx | rfl
  ·exact .inr ⟨x,hx,rfl,rfl,rfl⟩
  ·exact .inr ⟨l[n],List.getElem_mem hn,rfl,rfl,rfl⟩
 ·rcases List.mem_append.1 hx with hx | hx
  ·exact .inr ⟨x,List.mem_of_mem_take hx,rfl,rfl,rfl⟩
  ·rcases List.mem_cons.1 hx with rfl | hx
   ·exact .inl rfl
   ·exact .inr ⟨x,List.mem_of_mem_drop hx,rfl,rfl,rfl⟩
 ·rcases List.mem_append.1 hx with hx | hx
  ·exact .inr ⟨x,hx,rfl,rfl,rfl⟩
  ·rw [List.mem_singleton] at hx; subst hx; exact .inl rfl
theorem take_from {l a : List Lk} {k : Lk} {fixed w : List Int} {e : Int} (h : TakeP l k fixed a w e) {x : Lk} (hx : x ∈ a) : x = k ∨ ∃ y ∈ l,y.block = x.block ∧ y.txn = x.txn ∧ y.age = x.age := by
 unfold TakeP at h
 split at h
 ·obtain ⟨rfl,_,_⟩ := h; exact .inr ⟨x,hx,rfl,rfl,rfl⟩
 ·split at h
  ·obtain ⟨rfl,_,_⟩ := h; exact .inr ⟨x,hx,rfl,rfl,rfl⟩
  ·split at h
   ·obtain ⟨rfl,_,_⟩ := h; exact .inr ⟨x,hx,rfl,rfl,rfl⟩
   ·rcases h.1.from hx with rfl | ⟨y,hy,h1⟩
    ·exact .inl rfl
    ·exact .inr ⟨y,(mem_withoutL.1 hy).1,h1⟩
theorem take_wound {l a : List Lk} {k : Lk} {fixed w : List Int} {e : Int} (h : TakeP l k fixed a w e) {x : Int} (hx : x ∈ w) : ∃ y ∈ l,y.txn = x := by
 unfold TakeP at h
 split at h
 ·obtain ⟨_,rfl,_⟩ := h; simp at hx
 ·split at h
  ·obtain ⟨_,rfl,_⟩ := h; simp at hx
  ·split at h
   ·obtain ⟨_,rfl,_⟩ := h; simp at hx
   ·obtain ⟨_,rfl,_⟩ := h
    obtain ⟨y,hy,_,e⟩ := mem_woundL.1 hx
    exact ⟨y,hy,e⟩
theorem take_keeps {l a : List Lk} {k : Lk} {fixed w : List Int} (h : TakeP l k fixed a w 0) {t b : Int} {wr : Bool} (ht : t ∉ w) (hh : hasL l t b wr = true) : hasL a t b wr = true := by
 obtain ⟨x,hx,h1,h2,h3⟩ := hasL_iff.1 hh
 have := (take_ok h rfl).2.2.1 x hx (by rw [h2]; exact ht)
 obtain ⟨y,hy,g1,g2,g3⟩ := hasL_iff.1 this
 exact hasL_iff.2 ⟨y,hy,g1.trans h1,g2.trans h2,fun hw => g3 (h3 hw)⟩
theorem lockS_cases (ls : List Lk) (d : List Int) (k : Lk) (fx : List Int) :
  lockS ls d k fx = (ls,d,11) ∨ lockS ls d k fx = (withoutL ls [k.txn],endD d [k.txn],24) ∨ ∃ a w,TakeP ls k fx a w 0 ∧ lockS ls d k fx = (withoutL a w,endD d w,0) := by
 have h := takeF_P ls k fx
 have hl := h.lens.2.2
 unfold lockS
 split
 ·exact .inl rfl
 ·split
  ·exact .inr (.inl rfl)
  ·refine .inr (.inr ⟨_,_,?_,rfl⟩)
   have e : (takeF ls k fx).2.2 = 0 := by omega
   rw [e] at h; exact h
structure Held (lo hi : Int) (ls : List Lk) (d : List Int) (ps : List Prp) : Prop where
 lks : ∀ k ∈ ls,(lo ≤ k.block ∧ k.block < hi) ∧ (1 ≤ k.txn ∧ k.txn ≤ 1099511627776) ∧ (0 ≤ k.age ∧ k.age ≤ 1099511627776)
 apart : ∀ k ∈ ls,k.txn ∉ d
 pd : ∀ p ∈ ps,p.txn ∉ d
 wr : ∀ p ∈ ps,∀ w ∈ p.writes,hasL ls p.txn w.block true = true
 dn : ∀ t ∈ d,1 ≤ t ∧ t ≤ 1099511627776
theorem Held.lock {lo hi : Int} {ls : List Lk} {d : List Int} {ps : List Prp} (h : Held lo hi ls d ps) {k : Lk} (hk : (lo ≤ k.block ∧ k.block < hi) ∧ (1 ≤ k.txn ∧ k.txn ≤ 1099511627776) ∧ (0 ≤ k.age ∧ k.age ≤ 1099511627776))
  (hd : k.txn ∉ d) (hp : ∀ p ∈ ps,p.txn ≠ k.txn) : Held lo hi (lockS ls d k (ps.map Prp.txn)).1 (lockS ls d k (ps.map Prp.txn)).2.1 ps ∧
   ((lockS ls d k (ps.map Prp.txn)).2.2 = 0 → k.txn ∉ (lockS ls d k (ps.map Prp.txn)).2.1 ∧ hasL (lockS ls d k (ps.map Prp.txn)).1 k.txn k.block k.write = true ∧ ∀ b w,hasL ls k.txn b w = true → hasL (lockS ls d k (ps.map Prp.txn)).1 k.txn b w = true) ∧
   (∀ p ∈ ps,∀ b w,hasL ls p.txn b w = true → hasL (lockS ls d k (ps.map Prp.txn)).1 p.txn b w = true) := by
 rcases lockS_cases ls d k (ps.map Prp.txn) with e | e | ⟨a,w,ht,e⟩ <;> rw [e]
 ·exact ⟨h,fun h => absurd h (show ¬ ((11 : Int) = 0) by decide),fun _ _ _ _ h => h⟩
 ·refine ⟨⟨fun x hx => h.lks x (mem_withoutL.1 hx).1,fun x hx => ?_,fun p hq hm => ?_,fun p hq w hw => ?_,fun t ht => ?_⟩,fun h => absurd h (show ¬ ((24 : Int) = 0) by decide),fun p hq b w hh => ?_⟩
  ·obtain ⟨h1,h2⟩ := mem_withoutL.1 hx
   rw [mem_endD]
   rintro (h3 | h3)
   ·exact h2 h3
   ·exact h.apart x h1 h3
  ·rcases mem_endD.1 hm with hm | hm
   ·exact hp p hq (List.mem_singleton.1 hm)
   ·exact h.pd p hq hm
  ·rw [hasL_without (by rw [List.mem_singleton]; exact hp p hq)]
   exact h.wr p hq w hw
  ·rcases mem_endD.1 ht with ht | ht
   ·rw [List.mem_singleton] at ht; subst ht; exact hk.2.1
   ·exact h.dn t ht
  ·rw [hasL_without (by rw [List.mem_singleton]; exact hp p hq)]; exact hh
 ·obtain ⟨t1,t2,t3,t4,t5,t6⟩ := take_ok ht rfl
  have wn : ∀ p ∈ ps,p.txn ∉ w := fun p hq hm => (t1 _ hm).1 (List.mem_map_of_mem hq)
  refine ⟨⟨fun x hx => ?_,fun x hx hm => ?_,fun p hq hm => ?_,fun p hq v hv => ?_,fun t hm => ?_⟩,fun _ => ⟨?_,?_,fun b v hh => ?_⟩,fun p hq b v hh => ?_⟩
  ·rcases take_from ht (mem_withoutL.1 hx).1 with rfl | ⟨y,hy,e1,e2,e3⟩
   ·exact hk
   ·rw [← e1,← e2,← e3]; exact h.lks y hy
  ·obtain ⟨h1,h2⟩ := mem_withoutL.1 hx
   rcases mem_endD.1 hm with h3 | h3
   ·exact h2 h3
   ·rcases take_from ht h1 with rfl | ⟨y,hy,e1,e2,e3⟩
    ·exact hd h3
    ·exact h.apart y hy (by rw [e2]; exact h3)
  ·rcases mem_endD.1 hm with h3 | h3
   ·exact wn p hq h3
   ·exact h.pd p hq h3
  ·rw [hasL_without (wn p hq)]
   exact take_keeps ht (wn p hq) (h.wr p hq v hv)
  ·rcases mem_endD.1 hm with h3 | h3
   ·obtain ⟨y,hy,rfl⟩ := take_wound ht h3
    exact (h.lks y hy).2.1
   ·exact h.dn t h3
  ·intro hm
   rcases mem_endD.1 hm with h3 | h3
   ·exact (t1 _ h3).2 rfl
   ·exact hd h3
  ·rw [hasL_without (fun hm => (t1 _ hm).2 rfl)]
   have := take_has ht
   rw [this]; rfl
  ·rw [hasL_without (fun hm => (t1 _ hm).2 rfl)]
   exact take_keeps ht (fun hm => (t1 _ hm).2 rfl) hh
  ·rw [hasL_without (wn p hq)]
   exact take_keeps ht (wn p hq) hh
theorem Held.ends {lo hi : Int} {ls : List Lk} {d : List Int} {ps : List Prp} (h : Held lo hi ls d ps) {ts : List Int} (ht : ∀ t ∈ ts,1 ≤ t ∧ t ≤ 1099511627776) (hp : ∀ p ∈ ps,p.txn ∉ ts) : Held lo hi (withoutL ls ts) (endD d ts) ps := by
 refine ⟨fun x hx => h.lks x (mem_withoutL.1 hx).1,fun x hx hm => ?_,fun p hq hm => ?_,fun p hq w hw => ?_,fun t hm => ?_⟩
 ·obtain ⟨h1,h2⟩ := mem_withoutL.1 hx
  rcases mem_endD.1 hm with h3 | h3
  ·exact h2 h3
  ·exact h.apart x h1 h3
 ·rcases mem_endD.1 hm with h3 | h3
  ·exact hp p hq h3
  ·exact h.pd p hq h3
 ·rw [hasL_without (hp p hq)]; exact h.wr p hq w hw
 ·rcases mem_endD.1 hm with h3 | h3
  ·exact ht t h3
  ·exact h.dn t h3
theorem Held.sub {lo hi : Int} {ls : List Lk} {d d' : List Int} {ps : List Prp} (h : Held lo hi ls d ps) (hd : ∀ t ∈ d',t ∈ d) : Held lo hi ls d' ps :=
 ⟨h.lks,fun x hx hm => h.apart x hx (hd _ hm),fun p hp hm => h.pd p hp (hd _ hm),h.wr,fun t ht => h.dn t (hd _ ht)⟩
theorem Held.less {lo hi : Int} {ls : List Lk} {d : List Int} {ps ps' : List Prp} (h : Held lo hi ls d ps) (hp : ∀ p ∈ ps',p ∈ ps) : Held lo hi ls d ps' :=
 ⟨h.lks,h.apart,fun p hq => h.pd p (hp p hq),fun p hq => h.wr p (hp p hq),h.dn⟩
theorem Held.span {lo hi lo' hi' : Int} {ls : List Lk} {d : List Int} {ps : List Prp} (h : Held lo hi ls d ps) (hl : ∀ k ∈ ls,lo' ≤ k.block ∧ k.block < hi') : Held lo' hi' ls d ps :=
 ⟨fun k hk => ⟨hl k hk,(h.lks k hk).2⟩,h.apart,h.pd,h.wr,h.dn⟩
structure Took (s : Shd) (t : Int) (ks : List Lk) (x : Shd × Int) : Prop where
 same : x.1 = ldS s x.1.locks x.1.dead
 held : Held s.lo s.hi x.1.locks x.1.dead s.preps
 safe : Safe x.1.locks
 rises : Rises x.1.dead
 len : x.1.dead.length ≤ s.dead.length + 65 * ks.length
 mine : x.2 = 0 → t ∉ x.1.dead ∧ (∀ k ∈ ks,hasL x.1.locks t k.block k.write = true) ∧ ∀ b w,hasL s.locks t b w = true → hasL x.1.locks t b w = true
 theirs : ∀ p ∈ s.preps,∀ b w,hasL s.locks p.txn b w = true → hasL x.1.locks p.txn b w = true
theorem tkAll_took {t : Int} : ∀ (ks : List Lk) (s : Shd),Held s.lo s.hi s.locks s.dead s.preps → Safe s.locks → Rises s.dead → t ∉ s.dead → (∀ p ∈ s.preps,p.txn ≠ t) →
  (∀ k ∈ ks,k.txn = t ∧ (s.lo ≤ k.block ∧ k.block < s.hi) ∧ (1 ≤ k.txn ∧ k.txn ≤ 1099511627776) ∧ (0 ≤ k.age ∧ k.age ≤ 1099511627776)) → Took s t ks (tkAll s ks)
 | [],s,h,hs,hr,hd,hp,hk => ⟨rfl,h,hs,hr,by simp [tkAll],fun _ => ⟨hd,by simp,fun _ _ h => h⟩,fun _ _ _ _ h => h⟩
 | k :: ks,s,h,hs,hr,hd,hp,hk => by
  obtain ⟨e,k1⟩ := hk k (List.mem_cons_self ..)
  subst e
  obtain ⟨g1,g2,g4⟩ := h.lock k1 hd hp
  have g3 := lockS_dead (ls := s.locks) s.dead k (s.preps.map Prp.txn)
  have gs := lockS_safe hs s.dead k (s.preps.map Prp.txn)
  have gr := lockS_rises (ls := s.locks) hr k (s.preps.map Prp.txn)
  have hf := hs.few
  have es : tkAll s (k :: ks) = ks.foldl tkStep (tkS s k) := by
   show ks.foldl tkStep (tkStep (s,0) k) = _
   rw [show tkStep (s,0) k = tkS s k by unfold tkStep; rw [if_neg (by simp)]]
  by_cases hz : (tkS s k).2 = 0
  ·have e2 : ks.foldl tkStep (tkS s k) = tkAll (tkS s k).1 ks := by
    unfold tkAll
    rw [← hz]
   rw [es,e2]
   obtain ⟨m1,m2,m3⟩ := g2 hz
   have ih := tkAll_took (t := k.txn) ks (tkS s k).1 g1 gs gr m1 hp (fun k' hk' => hk k' (List.mem_cons_of_mem _ hk'))
   refine ⟨ih.same,ih.held,ih.safe,ih.rises,?_,fun hq => ?_,fun p hq b w hh => ih.theirs p hq b w (g4 p hq b w hh)⟩
   ·have i1 := ih.len
    have i2 : (tkS s k).1.dead.length ≤ s.dead.length + s.locks.length + 1 := g3
    rw [List.length_cons]; omega
   ·obtain ⟨n1,n2,n3⟩ := ih.mine hq
    refine ⟨n1,fun k' hk' => ?_,fun b w hh => n3 b w (m3 b w hh)⟩
    rcases List.mem_cons.1 hk' with rfl | hk'
    ·exact n3 _ _ m2
    ·exact n2 k' hk'
  ·rw [es,tkStep_bad hz]
   refine ⟨rfl,g1,gs,gr,?_,fun hq => absurd hq hz,g4⟩
   have i2 : (tkS s k).1.dead.length ≤ s.dead.length + s.locks.length + 1 := g3
   rw [List.length_cons]; omega
end Sl
end Go.Proofs.YtpkealohodeifaaGreat
namespace Go.Proofs.YtpkealohodeifaaGreat
open Go Go.RowKit
namespace Sl
def SpecD (P : Program) (w0 : World) (f : FuncId) (args : List Value) (pre : Hp) (post : Hp → Prop) : Prop :=
 ∀ (u : FrameMode) w fr,St w0 w (pre + fr) → CallsD P f args.toArray u w fun e u' w' => u' = u ∧ ∃ v h,e = .returned v ∧ post h ∧ St w0 w' (h + fr)
theorem specD_of_hold_d {P : Program} {w0 : World} {f : FuncId} {fn : Func} {c : Code} {n : Nat} {args : List Value} {rs : List ResultVar} {pre : Hp} {post : Hp → Prop}
  (hf : P.funcs[f]? = some fn) (hb : fn.body = some c) (hn : fn.ntmps = n) (hr : fn.results = rs.toArray) (hargs : decide (args.length ≤ n) = true)
  (h : ∀ fr,Hold P n w0 c (retD P w0 rs fr fun _ h => post h) (argE 0 args) (pre + fr)) : SpecD P w0 f args pre post := by
 intro u w fr hst
 have hle : args.length ≤ n := of_decide_eq_true hargs
 refine callsD_of_wp (R := fun e w' => ∃ v h,e = .returned v ∧ post h ∧ St w0 w' (h + fr)) hf hb (Code.wp_mono ?_ (h fr { tmps := args.toArray ++ Array.replicate (fn.ntmps - args.toArray.size) undef,defers := [] } w ⟨by simp [hn]; omega,rfl,fun t v ht => ?_⟩ hst))
 ·rintro e a' w' ⟨g,L,hq,ha',hw'⟩
  cases e with
  | normal => obtain ⟨vs,h',R,h1,h2,rfl⟩ := hq; exact ⟨ha'.nodefer,_,resOk_run ha' hw' fn rs hr h1,_,h',rfl,h2,hw'.left⟩
  | ret => obtain ⟨vs,h',R,h1,h2,rfl⟩ := hq; exact ⟨ha'.nodefer,_,resOk_run ha' hw' fn rs hr h1,_,h',rfl,h2,hw'.left⟩
  | _ => exact hq.elim
 ·have := (look_argE args 0 t v ht).2
  simp only [Nat.sub_zero] at this
  have hlt := (List.getElem?_eq_some_iff.1 this).1
  rw [List.getElem?_eq_getElem hlt] at this
  simp [Array.getElem?_append,hlt,Option.some.inj this]
abbrev PostX := List Deferred → Exit → Env → Hp → Prop
def bare (a : Act) : Act := { a with defers := [] }
def liftX (n : Nat) (w0 : World) (Q : PostX) : Exit → Act → World → Prop := fun e a w => ∃ g L,Q a.defers e g L ∧ Fits n (bare a) g ∧ St w0 w L
def HoldX (P : Program) (n : Nat) (w0 : World) (c : Code) (Q : PostX) (ds : List Deferred) (g : Env) (L : Hp) : Prop :=
 ∀ a w,Fits n (bare a) g → a.defers = ds → St w0 w L → c.wp P (liftX n w0 Q) a w
def HoldXL (P : Program) (n : Nat) (w0 : World) (ops : Array Oper) (rest : List Oper) (Q : PostX) (ds : List Deferred) (g : Env) (L : Hp) : Prop :=
 ∀ a w,Fits n (bare a) g → a.defers = ds → St w0 w L → wpList P ops (liftX n w0 Q) rest a w
def seqX (P : Program) (n : Nat) (w0 : World) (y : Code) (Q : PostX) : PostX
 | ds,.normal,g,L => HoldX P n w0 y Q ds g L
 | ds,e,g,L => Q ds e g L
theorem bare_put (a : Act) (dst : Option Nat) (v : Value) : bare (a.put dst v) = (bare a).put dst v := by cases dst <;> rfl
theorem put_defers (a : Act) (dst : Option Nat) (v : Value) : (a.put dst v).defers = a.defers := by cases dst <;> rfl
section
variable {P : Program} {n : Nat} {w0 : World} {Q : PostX} {ds : List Deferred} {g : Env} {L : Hp}
theorem X_seq {x y : Code} (h : HoldX P n w0 x (seqX P n w0 y Q) ds g L) : HoldX P n w0 (.seq x y) Q ds g L := by
 intro a w ha hd hw
 refine wp_seq (Code.wp_mono ?_ (h a w ha hd hw))
 rintro e a' w' ⟨g',L',hq,ha',hw'⟩
 cases e <;> first | exact hq a' w' ha' rfl hw' | exact ⟨g',L',hq,ha',hw'⟩
theorem X_ret (h : Q ds .ret g L) : HoldX P n w0 .ret Q ds g L := fun _ _ ha hd hw => wp_ret ⟨g,L,by rw [hd]; exact h,ha,hw⟩
theorem X_region_lit {id : Nat} {l : List Oper} (h : HoldXL P n w0 l.toArray l Q ds g L) : HoldX P n w0 (.region id l.toArray false) Q ds g L :=
 fun a w ha hd hw => wp_region_list (h a w ha hd hw)
theorem X_nil {ops : Array Oper} (h : Q ds .normal g L) : HoldXL P n w0 ops [] Q ds g L := fun _ _ ha hd hw => ⟨g,L,by rw [hd]; exact h,ha,hw⟩
variable {ops : Array Oper} {rest : List Oper} {dst : Option Nat} {op : Op} {ty : TypeId} {pos : String} {af : Array Edge} {gd : Option (Nat × Bool)}
theorem X_run (hw : wantedE ops g gd = some true) (h : ∀ a w,Fits n (bare a) g → a.defers = ds → St w0 w L → Oper.wp P ⟨dst,op,ty,pos,af,gd⟩ a w (wpList P ops (liftX n w0 Q) rest) (liftX n w0 Q)) : HoldXL P n w0 ops (⟨dst,op,ty,pos,af,gd⟩ :: rest) Q ds g L := by
 intro a w ha hd hst
 unfold wpList
 have hwn : Region.wanted ⟨dst,op,ty,pos,af,gd⟩ (yielded ops a.tmps) = true := wanted_of (o := ⟨dst,op,ty,pos,af,gd⟩) (a := bare a) ha hw
 rw [if_pos hwn]
 exact .inl (h a w ha hd hst)
theorem X_pure (hw : wantedE ops g gd = some true) (hd : dst.all (· < n) = true) {v : Value} (h : PV P g op v) (hk : HoldXL P n w0 ops rest Q ds (putE g dst v) L) : HoldXL P n w0 ops (⟨dst,op,ty,pos,af,gd⟩ :: rest) Q ds g L :=
 X_run hw fun a w ha hds hst => by
  unfold Oper.wp
  rw [show (execOp a.eval ⟨dst,op,ty,pos,af,gd⟩).run P w = .ok (.value v) w from h ⟨dst,op,ty,pos,af,gd⟩ (bare a) w n rfl ha]
  exact hk _ w (by rw [bare_put]; exact ha.put hd _) (by rw [put_defers]; exact hds) hst
theorem X_load (hw : wantedE ops g gd = some true) (hd : dst.all (· < n) = true) {t : TypeId} {ad : Addr} {v : Value} (h : LV g op t ad) (hr : Loads P w0 L t ad v)
  (hk : HoldXL P n w0 ops rest Q ds (putE g dst v) L) : HoldXL P n w0 ops (⟨dst,op,ty,pos,af,gd⟩ :: rest) Q ds g L :=
 X_run hw fun a w ha hds hst => by
  unfold Oper.wp
  rw [show execOp a.eval ⟨dst,op,ty,pos,af,gd⟩ = (do pure (.value (← loadVar t ad))) from h ⟨dst,op,ty,pos,af,gd⟩ (bare a) n rfl ha]
  simp only [Sem.run_bind,hr w hst,Result.andThen_ok,Sem.run_pure]
  exact hk _ w (by rw [bare_put]; exact ha.put hd _) (by rw [put_defers]; exact hds) hst
theorem X_eff (hw : wantedE ops g gd = some true) (hd : dst.all (· < n) = true) {post : Value → Hp → Prop} (h : EV P w0 L g op post)
  (hk : ∀ v L',post v L' → HoldXL P n w0 ops rest Q ds (putE g dst v) L') : HoldXL P n w0 ops (⟨dst,op,ty,pos,af,gd⟩ :: rest) Q ds g L :=
 X_run hw fun a w ha hds hst => by
  unfold Oper.wp
  obtain ⟨v,w',L',hr,hp,hst'⟩ := h ⟨dst,op,ty,pos,af,gd⟩ (bare a) w n rfl ha hst
  have hr' : (execOp a.eval ⟨dst,op,ty,pos,af,gd⟩).run P w = .ok (.value v) w' ∨ ((execOp a.eval ⟨dst,op,ty,pos,af,gd⟩).run P w = .ok .skip w' ∧ v = undef) := hr
  clear hr
  rcases hr' with hr | ⟨hr,rfl⟩ <;> rw [hr] <;> exact hk _ L' hp _ w' (by rw [bare_put]; exact ha.put hd _) (by rw [put_defers]; exact hds) hst'
theorem X_call (hw : wantedE ops g gd = some true) (hd : dst.all (· < n) = true) {k : FuncId} {args : List Value} (h : CV P g op k args) {pre R : Hp} {post : Value → Hp → Prop}
  (hs : Spec P w0 k args pre post) [hL : yK pre L R] (hk : ∀ v h,post v h → HoldXL P n w0 ops rest Q ds (putE g dst v) (h + R)) : HoldXL P n w0 ops (⟨dst,op,ty,pos,af,gd⟩ :: rest) Q ds g L :=
 X_run hw fun a w ha hds hst => by
  unfold Oper.wp
  rw [show (execOp a.eval ⟨dst,op,ty,pos,af,gd⟩).run P w = .ok (.enter k args.toArray) w from h ⟨dst,op,ty,pos,af,gd⟩ (bare a) w n rfl ha]
  rw [hL.out] at hst
  refine Calls.mono (hs w R hst) ?_
  rintro e w' ⟨v,h',rfl,hp,hst'⟩
  exact hk v h' hp _ w' (by rw [bare_put]; exact ha.put hd _) (by rw [put_defers]; exact hds) hst'
theorem X_defer (hw : wantedE ops g gd = some true) (hd : dst.all (· < n) = true) {f : Operand} {xs : List Operand} {ts : Array TypeId} {k : FuncId} {cap : Array Value} {vs : List Value}
  (h : ev g f = some (.func (.func k) #[] cap)) (hxs : evs g xs = some vs) (hk : HoldXL P n w0 ops rest Q (⟨.fn (.func k) cap,vs.toArray⟩ :: ds) (putE g dst undef) L) :
  HoldXL P n w0 ops (⟨dst,.defer { callee := .value f,args := xs.toArray,argTypes := ts },ty,pos,af,gd⟩ :: rest) Q ds g L :=
 X_run hw fun a w ha hds hst => by
  unfold Oper.wp
  have hargs : (xs.toArray.map a.eval) = vs.toArray := by rw [List.map_toArray]; exact congrArg List.toArray (ha.evs hxs)
  have hv : a.eval f = .func (.func k) #[] cap := ha.ev h
  have e : (execOp a.eval ⟨dst,.defer { callee := .value f,args := xs.toArray,argTypes := ts },ty,pos,af,gd⟩).run P w = .ok (.defer ⟨.fn (.func k) cap,vs.toArray⟩) w := by
   unfold execOp
   simp [resolve,hv,hargs,Deferred.ofValue]
  rw [e,Oper.upon_defer]
  refine hk _ w ?_ (by rw [put_defers,← hds]) hst
  rw [bare_put]
  exact Fits.put (a := bare a) ha hd _
theorem X_of {v : Value} (h : pureV g op = some v) (hw : wantedE ops g gd = some true) (hd : dst.all (· < n) = true) (hk : HoldXL P n w0 ops rest Q ds (putE g dst v) L) :
  HoldXL P n w0 ops (⟨dst,op,ty,pos,af,gd⟩ :: rest) Q ds g L := X_pure hw hd (pv_of h) hk
theorem X_clo {k : Nat} {cap : List Operand} {vs : List Value} (h : evs g cap = some vs) (hw : wantedE ops g gd = some true) (hd : dst.all (· < n) = true) (hk : HoldXL P n w0 ops rest Q ds (putE g dst (.func (.func k) #[] vs.toArray)) L) :
  HoldXL P n w0 ops (⟨dst,.makeFunc (.func k) #[] cap.toArray,ty,pos,af,gd⟩ :: rest) Q ds g L :=
 X_pure hw hd (v := .func (.func k) #[] vs.toArray) (by intro o a w n ho ha; unfold execOp; simp [ho,Instr.makeFunc,ha.evs h]) hk
theorem X_box {t : TypeId} {x : Operand} {v : Value} (hx : ev g x = some v) {c : List Value} (hc : v.cells.toList = c) (hw : wantedE ops g gd = some true) (hd : dst.all (· < n) = true)
  (hk : ∀ b,HoldXL P n w0 ops rest Q ds (putE g dst (.pointer (some ⟨b,0,none⟩))) (pt b (.cells c.toArray t (0,0)) + L)) :
  HoldXL P n w0 ops (⟨dst,.box t x,ty,pos,af,gd⟩ :: rest) Q ds g L := X_eff hw hd (ev_box hx) (by rintro _ _ ⟨b,rfl,rfl⟩; subst hc; simpa using hk b)
theorem X_alloc {t : TypeId} {sz by' : Nat} {z : Value} [hi : Inf P t sz by' z] {c : List Value} (hc : z.cells.toList = c) (hw : wantedE ops g gd = some true) (hd : dst.all (· < n) = true)
  (hk : ∀ b,HoldXL P n w0 ops rest Q ds (putE g dst (.pointer (some ⟨b,0,none⟩))) (pt b (.cells c.toArray t (0,0)) + L)) :
  HoldXL P n w0 ops (⟨dst,.alloc t,ty,pos,af,gd⟩ :: rest) Q ds g L := X_eff hw hd ev_alloc (by rintro _ _ ⟨b,rfl,rfl⟩; subst hc; simpa using hk b)
theorem X_ldA {t : TypeId} {d : TypeDesc} [hu : Und P t d] {sz by' : Nat} {z : Value} [hi : Inf P t sz by' z] {x : Operand} {b off : Nat} {c : List Value} {e : TypeId} {fz : Nat × Nat} {R : Hp} {vs : List Value}
  (hx : ev g x = some (.pointer (some ⟨b,off,none⟩))) [hb : HasPt b L (.cells c.toArray e fz) R] (hc : (c.drop off).take sz = vs) (hl : (vs.length == sz) = true) (hn : notAgg d = false)
  (hw : wantedE ops g gd = some true) (hd : dst.all (· < n) = true) (hk : HoldXL P n w0 ops rest Q ds (putE g dst (.agg vs.toArray)) L) :
  HoldXL P n w0 ops (⟨dst,.load t x,ty,pos,af,gd⟩ :: rest) Q ds g L := X_load hw hd (yF hx) (zL hn hc hl) hk
theorem X_stA {t : TypeId} {sz by' : Nat} {z : Value} [hi : Inf P t sz by' z] {x y : Operand} {b off : Nat} {c : List Value} {e : TypeId} {vs : List Value} {R : Hp}
  (hx : ev g x = some (.pointer (some ⟨b,off,none⟩))) (hy : ev g y = some (.agg vs.toArray)) [hb : HasPt b L (.cells c.toArray e (0,0)) R] (hl : (vs.length == sz) = true) (h1 : vs.all (·.oneCell') = true) (hc : Nat.ble (off + vs.length) c.length = true)
  {c' : List Value} (hc' : spliceL off vs c = c') (hw : wantedE ops g gd = some true) (hk : HoldXL P n w0 ops rest Q ds g (pt b (.cells c'.toArray e (0,0)) + R)) :
  HoldXL P n w0 ops (⟨none,.store t x y,ty,pos,af,gd⟩ :: rest) Q ds g L := X_eff hw rfl (ev_storeA hx hy hl h1 (Nat.le_of_ble_eq_true hc) hc') (by rintro _ _ rfl; exact hk)
end
def retX (P : Program) (w0 : World) (rs : List ResultVar) (fr : Hp) (post : Value → Hp → Prop) : PostX
 | ds,.normal,g,L | ds,.ret,g,L => ∃ (k : FuncId) (cap vs : List Value) (pre2 R2 : Hp) (post2 : Hp → Prop),ds = [⟨.fn (.func k) cap.toArray,vs.toArray⟩] ∧ Nonempty (Fun P k) ∧ SpecD P w0 k (vs ++ cap) pre2 post2 ∧ L = pre2 + R2 ∧
   ∀ h2,post2 h2 → ∃ us h R,ResOk P w0 g (h2 + R2) rs us ∧ post (oneV us) h ∧ h2 + R2 = h + fr + R
 | _,_,_,_ => False
theorem invoke_fun {P : Program} {k : FuncId} [hf : Fun P k] (cap vs : List Value) (w : World) : (invoke (.fn (.func k) cap.toArray) vs.toArray).run P w = .ok (.enter k (vs ++ cap).toArray) w := by
 obtain ⟨fn,h1,h2,h3⟩ := hf.out
 simp only [invoke,callFunc,Sem.run_bind,run_program,Result.andThen_ok,h1,h2,h3,Bool.false_eq_true,if_false,Sem.run_pure]
 congr 2
 simp
theorem spec_of_holdX {P : Program} {w0 : World} {f : FuncId} {fn : Func} {c : Code} {n : Nat} {args : List Value} {rs : List ResultVar} {pre : Hp} {post : Value → Hp → Prop}
  (hf : P.funcs[f]? = some fn) (hb : fn.body = some c) (hn : fn.ntmps = n) (hr : fn.results = rs.toArray) (hargs : decide (args.length ≤ n) = true)
  (h : ∀ fr,HoldX P n w0 c (retX P w0 rs fr post) [] (argE 0 args) (pre + fr)) : Spec P w0 f args pre post := by
 intro w fr hst
 have hle : args.length ≤ n := of_decide_eq_true hargs
 refine calls_of_wp_defers hf hb (Code.wp_mono ?_ (h fr { tmps := args.toArray ++ Array.replicate (fn.ntmps - args.toArray.size) undef,defers := [] } w ⟨by simp [hn,bare]; omega,rfl,fun t v ht => ?_⟩ rfl hst))
 ·have key : ∀ (a' : Act) (w' : World) (g : Env) (L : Hp),retX P w0 rs fr post a'.defers .ret g L → Fits n (bare a') g → St w0 w' L → Leaves P fn a'.tmps (fun e w' => ∃ v h,e = .returned v ∧ post v h ∧ St w0 w' (h + fr)) a'.defers .returning w' := by
   rintro a' w' g L ⟨k,cap,vs,pre2,R2,post2,hds,⟨hfun⟩,hsp,rfl,hpost⟩ ha' hw'
   rw [hds]
   refine leaves_cons (by simp) (invoke_fun cap vs w') (CallsD.mono (hsp .returning w' R2 hw') ?_)
   rintro e u' w2 ⟨rfl,v,h2,rfl,hp2,hst2⟩
   obtain ⟨us,h',R,h1,h3,h4⟩ := hpost h2 hp2
   refine ⟨oneV us,resOk_run ha' hst2 fn rs hr h1,_,h',rfl,h3,?_⟩
   rw [h4] at hst2
   exact hst2.left
  rintro e a' w' ⟨g,L,hq,ha',hw'⟩
  cases e with
  | normal => exact key a' w' g L hq ha' hw'
  | ret => exact key a' w' g L hq ha' hw'
  | _ => exact hq.elim
 ·have := (look_argE args 0 t v ht).2
  simp only [Nat.sub_zero] at this
  have hlt := (List.getElem?_eq_some_iff.1 this).1
  rw [List.getElem?_eq_getElem hlt] at this
  simp [bare,Array.getElem?_append,hlt,Option.some.inj this]
end Sl
end Go.Proofs.YtpkealohodeifaaGreat
namespace Go.Proofs.YtpkealohodeifaaGreat
open Go Go.RowKit
namespace Sl
set_option maxHeartbeats 16000000
set_option maxRecDepth 4000
set_option synthInstance.maxHeartbeats 400000
set_option synthInstance.maxSize 100000
attribute [local irreducible] Hold HoldL HoldW HoldX HoldXL
theorem drop1_spec (w0 : World) (u : Outp) (e : List Value) (Y : Hp) (he : Rep.rd w0 Y u e) (b : Nat) (o : Opn) (v1 v2 v3 v4 : Value) :
  Spec Tryz.prog w0 221 [.agg e.toArray,.pointer (some ⟨b,0,none⟩)] (opC b o v1 v2 v3 v4) (fun r h' => r = .bool (isOut o.epoch u) ∧ opC b o v1 v2 v3 v4 = h') := by
 obtain ⟨a,c,rfl,_⟩ := he
 refine zN Tryz.func221 rfl Tryz.ntmps221 Tryz.results221 rfl fun fr => ?_
 repeat (first | refine zF ?_ | refine zB ?_ | refine zE ?_ | refine zK rfl rfl rfl ?_ | refine zZ rfl rfl rfl rfl rfl ?_ | refine L_ld rfl rfl rfl rfl rfl ?_ | refine L_box rfl (c := [_,_,_,_]) rfl rfl rfl (fun _ => ?_))
 refine yH rfl rfl (pv_eql rfl rfl) ?_
 repeat (first | refine zE ?_ | refine zK rfl rfl rfl ?_ | refine zM ?_)
 exact ⟨[_],_,_,⟨rfl,trivial⟩,⟨rfl,rfl⟩,yK.out⟩
theorem drop22_spec (w0 : World) (X : Hp) (b : Nat) (s : Shd) (h : Hp) (o : Opn) (e : List Value) (hs : ShAt w0 X b s h) (ho : ∃ Y,Rep.rd w0 Y o e) (hz : Sized s) :
  Spec Tryz.prog w0 160 [.pointer (some ⟨b,0,none⟩),.agg e.toArray] (X + h) (PostS w0 X b (dropF s o)) := by
 obtain ⟨a1,c1,a2,c2,a3,c3,a4,c4,a5,c5,a6,c6,a7,c7,h1,h2,h3,h4,h5,h6,h7,o1,o2,o3,o4,o5,o6,o7,rfl⟩ := id hs
 obtain ⟨Y,x1,y1,x2,y2,x3,y3,x4,y4,rfl,_,_,_,_⟩ := ho
 have z1 := hz.outs
 refine zN Tryz.func160 rfl Tryz.ntmps160 Tryz.results160 rfl fun fr => ?_
 repeat (first | refine zF ?_ | refine zB ?_ | refine zE ?_ | refine zK rfl rfl rfl ?_ | refine zZ rfl rfl rfl rfl rfl ?_ | refine L_ld rfl rfl rfl rfl rfl ?_ | refine L_box rfl (c := [_,_,_,_,_,_,_,_,_,_,_,_,_,_,_,_,_]) rfl rfl rfl (fun _ => ?_) | refine L_alloc (c := [_,_]) rfl rfl rfl (fun _ => ?_) | refine L_clo rfl rfl rfl ?_)
 rename_i b3 b4
 refine zY rfl rfl (zQ rfl rfl rfl) (deleteFuncOut_spec w0 (X + opC b3 o (.slice x1 o.parts.length y1) (.slice x2 o.reads.length y2) (.slice x3 o.writes.length y3) (.slice x4 o.data.length y4)) s.outs (.slice a6 s.outs.length c6) h6 221 [.pointer (some ⟨b3,0,none⟩)] (isOut o.epoch) (o6.mono rfl) (by omega)
  (fun Y x e hx he => Spec.frameL (hadd_comm _ _) (drop1_spec w0 x e Y he b3 o (.slice x1 o.parts.length y1) (.slice x2 o.reads.length y2) (.slice x3 o.writes.length y3) (.slice x4 o.data.length y4)))) ?_
 rintro vo _ ⟨h6',o6',rfl⟩
 obtain ⟨a6',c6',rfl⟩ := o6'.shape
 repeat (first | refine zF ?_ | refine zB ?_ | refine zE ?_ | refine zK rfl rfl rfl ?_ | refine zZ rfl rfl rfl rfl rfl ?_ | refine L_st rfl rfl rfl (c' := [_,_,_,_,_,_,_,_,_,_]) rfl rfl rfl rfl ?_)
 refine zY rfl rfl (zQ rfl rfl rfl) (code22_spec w0 0) ?_
 rintro _ _ ⟨rfl,rfl⟩
 repeat (first | refine zE ?_ | refine zM ?_ | refine L_stA rfl (vs := [_,_]) rfl rfl rfl rfl (c' := [_,_]) rfl rfl ?_)
 exact ⟨[_],X + opC b3 o (.slice x1 o.parts.length y1) (.slice x2 o.reads.length y2) (.slice x3 o.writes.length y3) (.slice x4 o.data.length y4) + (stC b (cellsS s (.slice a1 s.blocks.length c1) (.slice a2 s.kept.length c2) (.slice a3 s.locks.length c3) (.slice a4 s.preps.length c4) (.slice a5 s.dead.length c5) (.slice a6' (s.outs.filter fun u => !isOut o.epoch u).length c6') (.slice a7 s.sess.length c7)) + h1 + h2 + h3 + h4 + h5 + h6' + h7),_,⟨⟨_,rfl,zL rfl rfl rfl⟩,trivial⟩,
  PostS.code (s := { s with outs := s.outs.filter fun u => !isOut o.epoch u }) ⟨a1,c1,a2,c2,a3,c3,a4,c4,a5,c5,a6',c6',a7,c7,h1,h2,h3,h4,h5,h6',h7,o1.mono rfl,o2.mono rfl,o3,o4.mono rfl,o5,o6',o7.mono rfl,rfl⟩,yK.out⟩
theorem pv_bound {P : Program} {g : Env} {k : Nat} {first : List Operand} {vs : List Value} (h : evs g first = some vs) : PV P g (.makeFunc (.func k) first.toArray #[]) (.func (.func k) vs.toArray #[]) := by
 intro o a w n ho ha; unfold execOp
 simp [ho,Instr.makeFunc,ha.evs h]
def doV (b : Nat) (k : Int) : Value :=
 if k = 1 then .func (.func 155) #[.pointer (some ⟨b,0,none⟩)] #[] else if k = 2 then .func (.func 156) #[.pointer (some ⟨b,0,none⟩)] #[]
 else if k = 3 then .func (.func 157) #[.pointer (some ⟨b,0,none⟩)] #[] else if k = 5 then .func (.func 158) #[.pointer (some ⟨b,0,none⟩)] #[]
 else if k = 6 then .func (.func 159) #[.pointer (some ⟨b,0,none⟩)] #[] else if k = 7 then .func (.func 160) #[.pointer (some ⟨b,0,none⟩)] #[] else .nilFunc
theorem doing_spec (w0 : World) (b : Nat) (k : Int) : Spec Tryz.prog w0 101 [.pointer (some ⟨b,0,none⟩),.int .i64 k] 0 (fun r h' => r = doV b k ∧ 0 = h') := by
 refine zN Tryz.func101 rfl Tryz.ntmps101 Tryz.results101 rfl fun fr => ?_
 repeat (first | refine zF ?_ | refine zR ?_ | refine zB ?_ | refine zE ?_ | refine zK rfl rfl rfl ?_)
 repeat' (first|refine yH rfl rfl (pv_bound (first := [_]) rfl) ?_|refine zF ?_|refine zB ?_|refine zE ?_|refine zK rfl rfl rfl ?_|refine zP ?_|refine zM ?_|refine zJ rfl ?_|refine zI rfl ?_|refine yG rfl rfl (pv_eql rfl rfl) (fun _ => ?_) (fun _ => ?_)|exact ⟨[_],0,_,⟨rfl,trivial⟩,⟨by unfold doV; simp only [*,if_true,if_false,reduceIte,Int.reduceEq]; try rfl,rfl⟩,yK.out⟩|done)
theorem noteD_spec (w0 : World) (X : Hp) (b b3 b4 b6 : Nat) (s : Shd) (h : Hp) (o : Opn) (v1 v2 v3 v4 : Value) (r : Res) (hr : Hp) (a8 : Option Addr) (c8 : Nat) (hs : ShAt w0 X b s h) (hor : OwL w0 0 r.data (.slice a8 r.data.length c8) hr) (hz : s.sess.length ≤ 1000000) (hd : ∀ x ∈ s.sess,x.res.data.length ≤ 1000000000) (hrd : r.data.length ≤ 1000000000) :
  SpecD Tryz.prog w0 161 [.pointer (some ⟨b3,0,none⟩),.pointer (some ⟨b4,0,none⟩),.pointer (some ⟨b6,0,none⟩)] (X + h + hr + ptrC b3 b + opC b4 o v1 v2 v3 v4 + pt b6 (.cells [.int .i64 r.code,.slice a8 r.data.length c8].toArray 51 (0,0)))
   (fun h' => ∃ E h2,ShAt w0 (X + E) b (noteS s o r) h2 ∧ X + E + h2 + hr + pt b6 (.cells [.int .i64 r.code,.slice a8 r.data.length c8].toArray 51 (0,0)) = h') := by
 obtain ⟨a1,c1,a2,c2,a3,c3,a4,c4,a5,c5,a6,c6,a7,c7,h1,h2,h3,h4,h5,h6,h7,o1,o2,o3,o4,o5,o6,o7,rfl⟩ := id hs
 have hnote := note18_spec w0 (X + h7 + hr) (.slice a7 s.sess.length c7) s.sess o.client o.seq r [.int .i64 r.code,.slice a8 r.data.length c8] (o7.rd0.mono rfl) (by omega) hd ⟨a8,c8,rfl,hor.rd (L := X + h7 + hr) (R := X + h7) (hf := ⟨by rw [hzero_add]; ac_rfl⟩)⟩ hrd
 refine specD_of_hold_d Tryz.func161 rfl Tryz.ntmps161 Tryz.results161 rfl fun fr => ?_
 skip
 refine yC [11,15] [0,1,2,3,4,5,6,7,8,9,10,11,12,13,14,15] (by kernel_rfl) rfl (by kernel_rfl) (by kernel_rfl) ?_
 repeat (first | refine yI rfl rfl rfl rfl rfl ?_ | refine yE rfl rfl rfl rfl (yA rfl rfl rfl) ?_ | refine W_load rfl rfl rfl rfl (yF rfl) (zG rfl (zS rfl)) ?_ | refine W_load rfl rfl rfl rfl (yF rfl) (zL (vs := [_,_]) rfl rfl rfl) ?_)
 refine W_call rfl rfl rfl rfl (zQ rfl rfl rfl) hnote (Kept.all _) ?_
 rintro vn _ ⟨E,h7',o7',rfl⟩
 obtain ⟨a7',c7',rfl⟩ := o7'.shape
 refine ⟨(by repeat (first | exact trivial | exact zG rfl (zS rfl) | exact zL rfl rfl rfl | exact zX rfl (by assumption) rfl | exact zH rfl (by assumption) rfl | exact zH rfl (by assumption) (by assumption) | refine ⟨?_,?_⟩)),?_⟩
 repeat (first | refine yI rfl rfl rfl rfl rfl ?_ | refine yE rfl rfl rfl rfl (yA rfl rfl rfl) ?_)
 refine W_eff (W' := ?wk1) rfl rfl rfl rfl (ev_store rfl rfl rfl rfl rfl (c' := [_,_,_,_,_,_,_,_,_,_]) rfl) ?wkk1 ?wrest1
 case wkk1 => repeat (first | exact Kept.nil | refine Kept.drop (by kernel_rfl) ?_ | refine Kept.keep ?_)
 rintro _ _ rfl
 refine ⟨(by repeat (first | exact trivial | exact zG rfl (zS rfl) | exact zL rfl rfl rfl | exact zX rfl (by assumption) rfl | exact zH rfl (by assumption) rfl | exact zH rfl (by assumption) (by assumption) | refine ⟨?_,?_⟩)),?_⟩
 repeat (refine yJ ?_)
 skip
 exact ⟨[],X + E + (stC b (cellsS s (.slice a1 s.blocks.length c1) (.slice a2 s.kept.length c2) (.slice a3 s.locks.length c3) (.slice a4 s.preps.length c4) (.slice a5 s.dead.length c5) (.slice a6 s.outs.length c6) (.slice a7' (noteF s.sess o.client o.seq r).length c7')) + h1 + h2 + h3 + h4 + h5 + h6 + h7') + hr + pt b6 (.cells [.int .i64 r.code,.slice a8 r.data.length c8].toArray 51 (0,0)),_,trivial,
  ⟨E,_,⟨a1,c1,a2,c2,a3,c3,a4,c4,a5,c5,a6,c6,a7',c7',h1,h2,h3,h4,h5,h6,h7',o1.mono rfl,o2.mono rfl,o3,o4.mono rfl,o5,o6.mono rfl,o7'.mono (hadd_comm _ _),rfl⟩,rfl⟩,yK.out⟩
theorem do22_spec (w0 : World) (X : Hp) (b : Nat) (s : Shd) (h : Hp) (o : Opn) (e : List Value) (k : Nat) [hfk : Fun Tryz.prog k] (q : Shd × Res) (ho : Rep.rd w0 X o e) (hk : Spec Tryz.prog w0 k [.pointer (some ⟨b,0,none⟩),.agg e.toArray] (X + h) (PostS w0 X b q)) (hz : q.1.sess.length ≤ 1000000) (hd : ∀ x ∈ q.1.sess,x.res.data.length ≤ 1000000000) (hrd : q.2.data.length ≤ 1000000000) :
  Spec Tryz.prog w0 102 [.pointer (some ⟨b,0,none⟩),.agg e.toArray,.func (.func k) #[.pointer (some ⟨b,0,none⟩)] #[]] (X + h) (PostS w0 X b (noteS q.1 o q.2,q.2)) := by
 obtain ⟨x1,y1,x2,y2,x3,y3,x4,y4,rfl,_,_,_,_⟩ := id ho
 refine spec_of_holdX Tryz.func102 rfl Tryz.ntmps102 Tryz.results102 rfl fun fr => ?_
 repeat (first | refine X_seq ?_ | refine X_region_lit ?_ | refine X_nil ?_ | refine X_of rfl rfl rfl ?_ | refine X_clo rfl rfl rfl ?_ | refine X_ret ?_)
 refine X_box rfl (c := [_]) rfl rfl rfl (fun b3 => ?_)
 repeat (first | refine X_seq ?_ | refine X_region_lit ?_ | refine X_nil ?_ | refine X_of rfl rfl rfl ?_ | refine X_clo rfl rfl rfl ?_ | refine X_ret ?_)
 refine X_box rfl (c := [_,_,_,_,_,_,_,_,_,_,_,_,_,_,_,_,_]) rfl rfl rfl (fun b4 => ?_)
 repeat (first | refine X_seq ?_ | refine X_region_lit ?_ | refine X_nil ?_ | refine X_of rfl rfl rfl ?_ | refine X_clo rfl rfl rfl ?_ | refine X_ret ?_)
 refine X_alloc (c := [_,_]) rfl rfl rfl (fun b6 => ?_)
 repeat (first | refine X_seq ?_ | refine X_region_lit ?_ | refine X_nil ?_ | refine X_of rfl rfl rfl ?_ | refine X_clo rfl rfl rfl ?_ | refine X_ret ?_)
 refine X_defer rfl rfl rfl (xs := []) rfl ?_
 repeat (first | refine X_seq ?_ | refine X_region_lit ?_ | refine X_nil ?_ | refine X_of rfl rfl rfl ?_ | refine X_clo rfl rfl rfl ?_ | refine X_ret ?_)
 refine X_ldA rfl (vs := [_,_,_,_,_,_,_,_,_,_,_,_,_,_,_,_,_]) rfl rfl rfl rfl rfl ?_
 repeat (first | refine X_seq ?_ | refine X_region_lit ?_ | refine X_nil ?_ | refine X_of rfl rfl rfl ?_ | refine X_clo rfl rfl rfl ?_ | refine X_ret ?_)
 refine X_call rfl rfl (zQ rfl rfl rfl) hk ?_
 rintro vr _ ⟨E,h2,hr,⟨a8,c8,rfl,hor⟩,hs2,rfl⟩
 repeat (first | refine X_seq ?_ | refine X_region_lit ?_ | refine X_nil ?_ | refine X_of rfl rfl rfl ?_ | refine X_clo rfl rfl rfl ?_ | refine X_ret ?_)
 refine X_stA rfl rfl (c' := [_,_]) rfl rfl rfl rfl rfl ?_
 repeat (first | refine X_seq ?_ | refine X_region_lit ?_ | refine X_nil ?_ | refine X_of rfl rfl rfl ?_ | refine X_clo rfl rfl rfl ?_ | refine X_ret ?_)
 refine ⟨161,[.pointer (some ⟨b3,0,none⟩),.pointer (some ⟨b4,0,none⟩),.pointer (some ⟨b6,0,none⟩)],[],_,_,_,rfl,⟨inferInstance⟩,noteD_spec w0 (X + E) b b3 b4 b6 q.1 h2 o (.slice x1 o.parts.length y1) (.slice x2 o.reads.length y2) (.slice x3 o.writes.length y3) (.slice x4 o.data.length y4) q.2 hr a8 c8 hs2 hor hz hd hrd,yK.out,?_⟩
 rintro _ ⟨E2,h3,hs3,rfl⟩
 exact ⟨[_],X + (E + E2) + h3 + hr,_,⟨⟨_,rfl,zL rfl rfl rfl⟩,trivial⟩,⟨E + E2,h3,hr,⟨a8,c8,rfl,hor⟩,by rw [← hadd_assoc]; exact hs3,rfl⟩,yK.out⟩
end Sl
end Go.Proofs.YtpkealohodeifaaGreat
namespace Go.Proofs.YtpkealohodeifaaGreat
open Go Go.RowKit
namespace Sl
set_option maxHeartbeats 16000000
set_option maxRecDepth 4000
set_option synthInstance.maxHeartbeats 400000
set_option synthInstance.maxSize 100000
attribute [local irreducible] Hold HoldL HoldW
theorem inSpan22_spec (w0 : World) (lo hi n : Int) : Spec Tryz.prog w0 210 [.int .i64 n,.agg [.int .i64 lo,.int .i64 hi].toArray] 0 (fun r h' => r = .bool (inS lo hi n) ∧ 0 = h') := by
 refine zN Tryz.func210 rfl Tryz.ntmps210 Tryz.results210 rfl fun fr => ?_
 repeat' (first|refine zF ?_|refine zB ?_|refine zE ?_|refine zK rfl rfl rfl ?_|refine zZ rfl rfl rfl rfl rfl ?_|refine L_ld rfl rfl rfl rfl rfl ?_|refine L_skip rfl rfl ?_|refine zM ?_|refine L_box rfl (c := [_,_]) rfl rfl rfl (fun _ => ?_)|refine yG rfl rfl (pv_lss rfl rfl) (fun _ => ?_) (fun _ => ?_)|refine yG rfl rfl (pv_geq rfl rfl) (fun _ => ?_) (fun _ => ?_)|exact ⟨[_],0,_,⟨rfl,trivial⟩,⟨by unfold inS; first|exact bool_T (by omega)|exact bool_F (by omega),rfl⟩,yK.out⟩|done)
theorem freeze1_spec (w0 : World) (u : Outp) (e : List Value) (Y : Hp) (he : Rep.rd w0 Y u e) (b : Nat) (o : Opn) (v1 v2 v3 v4 : Value) :
  Spec Tryz.prog w0 206 [.agg e.toArray,.pointer (some ⟨b,0,none⟩)] (opC b o v1 v2 v3 v4) (fun r h' => r = .bool (isOut o.epoch u) ∧ opC b o v1 v2 v3 v4 = h') := by
 obtain ⟨a,c,rfl,_⟩ := he
 refine zN Tryz.func206 rfl Tryz.ntmps206 Tryz.results206 rfl fun fr => ?_
 repeat (first | refine zF ?_ | refine zB ?_ | refine zE ?_ | refine zK rfl rfl rfl ?_ | refine zZ rfl rfl rfl rfl rfl ?_ | refine L_ld rfl rfl rfl rfl rfl ?_ | refine L_box rfl (c := [_,_,_,_]) rfl rfl rfl (fun _ => ?_))
 refine yH rfl rfl (pv_eql rfl rfl) ?_
 repeat (first | refine zE ?_ | refine zK rfl rfl rfl ?_ | refine zM ?_)
 exact ⟨[_],_,_,⟨rfl,trivial⟩,⟨rfl,rfl⟩,yK.out⟩
theorem freeze2_spec (w0 : World) (X : Hp) (b c : Nat) (lo hi ep vb vk vl vp vd vo vx : Value) (ps : List Prp) (t : Int) (hp : RdL w0 X vp ps) (hl : ps.length ≤ 1000000000) :
  Spec Tryz.prog w0 208 [.int .i64 t,.pointer (some ⟨c,0,none⟩)] (X + ptrC c b + stC b [lo,hi,ep,vb,vk,vl,vp,vd,vo,vx])
   (fun r h' => r = .bool (ps.any (isTx t)) ∧ X + ptrC c b + stC b [lo,hi,ep,vb,vk,vl,vp,vd,vo,vx] = h') := by
 have hprep := prepared_spec w0 X b lo hi ep vb vk vl vp vd vo vx ps t hp hl
 refine zN Tryz.func208 rfl Tryz.ntmps208 Tryz.results208 rfl fun fr => ?_
 repeat (first | refine zF ?_ | refine zB ?_ | refine zE ?_ | refine zK rfl rfl rfl ?_ | refine L_ld rfl rfl rfl rfl rfl ?_)
 refine zY rfl rfl (zQ rfl rfl rfl) hprep ?_
 rintro _ _ ⟨rfl,rfl⟩
 skip
 refine yH rfl rfl (pv_geq rfl rfl) ?_
 repeat (first | refine zE ?_ | refine zK rfl rfl rfl ?_ | refine zM ?_)
 exact ⟨[_],_,_,⟨rfl,trivial⟩,⟨by rw [← idxF_nonneg]; rfl,rfl⟩,yK.out⟩
theorem freeze3_spec (w0 : World) (k : Kpt) (e : List Value) (Y : Hp) (he : Rep.rd w0 Y k e) (b : Nat) (lo hi : Int) :
  Spec Tryz.prog w0 209 [.agg e.toArray,.pointer (some ⟨b,0,none⟩)] (spanC b lo hi) (fun r h' => r = .bool (inK lo hi k) ∧ spanC b lo hi = h') := by
 obtain ⟨a,c,rfl,_⟩ := he
 refine zN Tryz.func209 rfl Tryz.ntmps209 Tryz.results209 rfl fun fr => ?_
 repeat (first | refine zF ?_ | refine zB ?_ | refine zE ?_ | refine zK rfl rfl rfl ?_ | refine zZ rfl rfl rfl rfl rfl ?_ | refine L_ld rfl rfl rfl rfl rfl ?_ | refine L_ldA rfl (vs := [_,_]) rfl rfl rfl rfl rfl ?_ | refine L_box rfl (c := [_,_,_]) rfl rfl rfl (fun _ => ?_))
 refine zY rfl rfl (zQ rfl rfl rfl) (inSpan22_spec w0 lo hi k.no) ?_
 rintro _ _ ⟨rfl,rfl⟩
 repeat (first | refine zE ?_ | refine zK rfl rfl rfl ?_ | refine zM ?_)
 exact ⟨[_],_,_,⟨rfl,trivial⟩,⟨rfl,rfl⟩,yK.out⟩
theorem part22_spec (w0 : World) (X : Hp) (v u : Value) (l : List Blk) (k : List Kpt) (hv : RdL w0 X v l) (hu : RdL w0 X u k) (hl : (partE l k).length ≤ 90000000000000) :
  Spec Tryz.prog w0 211 [v,u] X (fun r h' => ∃ h,OwL w0 0 (partE l k) r h ∧ X + h = h') := by
 have hb := putBlocks_spec w0 X (.slice none 0 0) v [] l (RdL.nil _ _ _) hv (by unfold partE at hl; rw [List.length_append] at hl; rw [List.nil_append]; omega)
 rw [List.nil_append] at hb
 obtain ⟨a,c,rfl⟩ := hv.shape
 obtain ⟨a2,c2,rfl⟩ := hu.shape
 refine zN Tryz.func211 rfl Tryz.ntmps211 Tryz.results211 rfl fun fr => ?_
 repeat (first | refine zF ?_ | refine zB ?_ | refine zE ?_ | refine zK rfl rfl rfl ?_)
 refine zY rfl rfl (zQ rfl rfl rfl) hb ?_
 rintro vb _ ⟨h1,o1,rfl⟩
 have hk := putKept_spec w0 (X + h1) vb (.slice a2 k.length c2) (encL' encBlk l) k (o1.rd (R := X) (hf := ⟨by rw [hzero_add]; exact hadd_comm _ _⟩)) (hu.mono rfl) hl
 obtain ⟨a3,c3,rfl⟩ := o1.shape
 repeat (refine zK rfl rfl rfl ?_)
 refine zY rfl rfl (zQ rfl rfl rfl) hk ?_
 rintro vk _ ⟨h2,o2,rfl⟩
 repeat (first | refine zE ?_ | refine zK rfl rfl rfl ?_ | refine zM ?_)
 exact ⟨[_],X + h2,_,⟨rfl,trivial⟩,⟨h2,o2,rfl⟩,yK.out⟩
theorem PostS.data {w0 : World} {X h hr : Hp} {b : Nat} {s : Shd} {n : Int} {d : List Bt} {a : Option Addr} {c : Nat} (hs : ShAt w0 X b s h) (hor : OwL w0 0 d (.slice a d.length c) hr) : PostS w0 X b (s,⟨n,d⟩) (.agg [.int .i64 n,.slice a d.length c].toArray) (X + h + hr) :=
 ⟨0,h,hr,⟨a,c,rfl,hor⟩,by rw [yB]; exact hs,by simp only [yB]⟩
theorem flat_len {α : Type} (f : α → List Bt) (c : Nat) : ∀ l : List α,(∀ x ∈ l,(f x).length = c) → ((l.map f).flatten).length = c * l.length
 | [],_ => by simp
 | x :: l,h => by
  rw [List.map_cons,List.flatten_cons,List.length_append,h x (List.mem_cons_self ..),flat_len f c l (fun y hy => h y (List.mem_cons_of_mem _ hy)),List.length_cons,Nat.mul_succ]; omega
theorem partE_len {l : List Blk} {k : List Kpt} (hb : ∀ x ∈ l,x.data.length = 4) (hk : ∀ x ∈ k,x.data.length = 4) : (partE l k).length = 16 + 20 * l.length + 28 * k.length := by
 unfold partE
 rw [List.length_append,encL'_length,encL'_length,flat_len encBlk 20 l (fun x hx => by unfold encBlk; rw [List.length_append,be8_length,blob_length,hb x hx]),flat_len encKpt 28 k (fun x hx => by unfold encKpt; rw [List.length_append,List.length_append,be8_length,be8_length,blob_length,hk x hx])]
 omega
theorem OkB.four {l : List Blk} (h : OkB l) : ∀ x ∈ l,x.data.length = 4 := fun x hx => (h.1 x hx).2.2.1
theorem freeze22_spec (w0 : World) (X : Hp) (b : Nat) (s : Shd) (h : Hp) (o : Opn) (e : List Value) (hs : ShAt w0 X b s h) (ho : ∃ Y,Rep.rd w0 Y o e) (hz : Sized s) (hk : Okay s) (hod : ∀ u ∈ s.outs,u.data.length ≤ 1000000000) :
  Spec Tryz.prog w0 158 [.pointer (some ⟨b,0,none⟩),.agg e.toArray] (X + h) (PostS w0 X b (freezeF s o)) := by
 obtain ⟨a1,c1,a2,c2,a3,c3,a4,c4,a5,c5,a6,c6,a7,c7,h1,h2,h3,h4,h5,h6,h7,o1,o2,o3,o4,o5,o6,o7,rfl⟩ := id hs
 obtain ⟨Y,x1,y1,x2,y2,x3,y3,x4,y4,rfl,_,_,_,_⟩ := id ho
 have z1 := hk.locks.few
 have z2 := hz.dead
 have z3 := hz.preps
 have z4 := hz.kept
 have z5 := hz.outs
 have z6 := hk.blocks.len
 refine zN Tryz.func158 rfl Tryz.ntmps158 Tryz.results158 rfl fun fr => ?_
 repeat (first | refine zF ?_ | refine zB ?_ | refine zE ?_ | refine zK rfl rfl rfl ?_ | refine zZ rfl rfl rfl rfl rfl ?_ | refine L_ld rfl rfl rfl rfl rfl ?_ | refine L_build (vs := [_,_]) (cells := [_,_]) rfl rfl rfl rfl ?_ | refine L_stA rfl (vs := [_,_]) rfl rfl rfl rfl (c' := [_,_]) rfl rfl ?_ | refine L_box rfl (c := [_]) rfl rfl rfl (fun _ => ?_) | refine L_box rfl (c := [_,_,_,_,_,_,_,_,_,_,_,_,_,_,_,_,_]) rfl rfl rfl (fun _ => ?_) | refine L_alloc (c := [_,_]) rfl rfl rfl (fun _ => ?_) | refine L_clo rfl rfl rfl ?_)
 rename_i b2 b3 b4 b5
 refine zY rfl rfl (zQ rfl rfl rfl) (indexFuncOut_spec w0 (X + h6 + opC b3 o (.slice x1 o.parts.length y1) (.slice x2 o.reads.length y2) (.slice x3 o.writes.length y3) (.slice x4 o.data.length y4)) (.slice a6 s.outs.length c6) s.outs 206 [.pointer (some ⟨b3,0,none⟩)] (isOut o.epoch) (o6.rd0.mono rfl) (by omega) (fun Y x e hx he => Spec.frameL (hadd_comm _ _) (freeze1_spec w0 x e Y he b3 o (.slice x1 o.parts.length y1) (.slice x2 o.reads.length y2) (.slice x3 o.writes.length y3) (.slice x4 o.data.length y4)))) ?_
 rintro _ _ ⟨rfl,rfl⟩
 repeat (first | refine zF ?_ | refine zB ?_ | refine zE ?_ | refine zK rfl rfl rfl ?_)
 rcases idxF_cases (isOut o.epoch) s.outs with ⟨hi,hall⟩ | ⟨i,hi,hidx,hpi,hbefore⟩
 rotate_left
 ·rw [hidx]
  have ef : freezeF s o = (s,⟨0,s.outs[i].data⟩) := by unfold freezeF; rw [find_hit hi hpi hbefore]
  have hd := hod _ (List.getElem_mem hi)
  obtain ⟨bo,oo,rfl,eo,⟨ad,cd,rfl,hdat⟩,hat⟩ := o6.rd0.at hi
  refine L_yes rfl rfl (pv_geq rfl rfl) (by omega) ?_
  repeat (first | refine zF ?_ | refine zB ?_ | refine zE ?_ | refine zK rfl rfl rfl ?_ | refine zZ rfl rfl rfl rfl rfl ?_ | refine L_ld rfl rfl rfl rfl rfl ?_ | refine zJ rfl ?_ | refine L_idx rfl rfl (by omega) rfl rfl ?_ | refine L_atf rfl (by assumption) rfl rfl rfl rfl ?_)
  refine zY rfl rfl (zQ rfl rfl rfl) (cloneB_spec w0 (X + h6) _ _ hdat (by omega)) ?_
  rintro vd _ ⟨hd2,hdo,rfl⟩
  obtain ⟨ae,ce,rfl⟩ := hdo.shape
  repeat (first | refine zE ?_ | refine zM ?_ | refine L_build (vs := [_]) (cells := [_,_]) rfl rfl rfl rfl ?_ | refine L_stA rfl (vs := [_,_]) rfl rfl rfl rfl (c' := [_,_]) rfl rfl ?_)
  rw [ef]
  exact ⟨[_],X + (stC b (cellsS s (.slice a1 s.blocks.length c1) (.slice a2 s.kept.length c2) (.slice a3 s.locks.length c3) (.slice a4 s.preps.length c4) (.slice a5 s.dead.length c5) (.slice (some ⟨bo,oo,none⟩) s.outs.length c6) (.slice a7 s.sess.length c7)) + h1 + h2 + h3 + h4 + h5 + h6 + h7) + hd2,_,⟨⟨_,rfl,zL rfl rfl rfl⟩,trivial⟩,PostS.data hs hdo.plainB,yK.out⟩
 ·rw [hi]
  have ef : freezeF s o = (if o.epoch ≤ s.epoch then (s,⟨26,[]⟩) else if o.lo < s.lo ∨ s.hi < o.hi ∨ (o.lo ≠ s.lo ∧ o.hi ≠ s.hi) then (s,⟨3,[]⟩) else if (ofS s o.lo o.hi).any (isPrep s) = true then (s,⟨11,[]⟩) else ({ goneS (endAll s (ofS s o.lo o.hi)) o.lo o.hi with epoch := o.epoch,outs := s.outs ++ [⟨o.epoch,o.lo,o.hi,partData s o.lo o.hi⟩] },⟨0,partData s o.lo o.hi⟩)) := by unfold freezeF; rw [List.find?_eq_none.2 (fun x hx => by rw [hall x hx]; simp)]
  refine L_no rfl rfl (pv_geq rfl rfl) (by omega) ?_
  repeat (first | refine zF ?_ | refine zE ?_ | refine zP ?_ | refine zI rfl ?_)
  refine yC [6] [0,1,2,3,4,5,6,7] (by kernel_rfl) rfl (by kernel_rfl) (by kernel_rfl) ?_
  repeat (first | refine yI rfl rfl rfl rfl rfl ?_ | refine yE rfl rfl rfl rfl (yA rfl rfl rfl) ?_ | refine W_load rfl rfl rfl rfl (yF rfl) (zG rfl (zS rfl)) ?_ | refine W_load rfl rfl rfl rfl (yF rfl) (zL (vs := [_,_]) rfl rfl rfl) ?_)
  refine W_call rfl rfl rfl rfl (zQ rfl rfl rfl) (of20_spec w0 h3 (.slice a3 s.locks.length c3) s.locks o.lo o.hi (rdL_locks.1 o3.rdh) (by omega)) (Kept.all _) ?_
  rintro vof _ ⟨hf,hrow,rfl⟩
  have oof : OwL w0 0 (ofS s o.lo o.hi) vof hf := owL_ints.2 hrow
  have hofl : (ofS s o.lo o.hi).length ≤ 64 := by
   unfold ofS
   have q1 := compI_le (sortI (ofL s.locks o.lo o.hi))
   have q2 := ofL_le s.locks o.lo o.hi
   rw [sortI_length] at q1; omega
  obtain ⟨a9,c9,rfl⟩ := oof.shape
  clear hrow
  refine ⟨(by repeat (first | exact trivial | exact zG rfl (zS rfl) | exact zL rfl rfl rfl | exact zX rfl (by assumption) rfl | exact zH rfl (by assumption) rfl | exact zH rfl (by assumption) (by assumption) | refine ⟨?_,?_⟩)),?_⟩
  repeat (first | refine yJ ?_ | refine yI rfl rfl rfl rfl rfl ?_)
  generalize hts : ofS s o.lo o.hi = ts at *
  repeat (first | refine zF ?_ | refine zR ?_)
  refine yC [] [0,1,2,3,4,5,6,7,8] (by kernel_rfl) rfl (by kernel_rfl) (by kernel_rfl) ?_
  repeat (first | refine yI rfl rfl rfl rfl rfl ?_ | refine yE rfl rfl rfl rfl (yA rfl rfl rfl) ?_ | refine W_load rfl rfl rfl rfl (yF rfl) (zG rfl (zS rfl)) ?_)
  refine W_dec rfl rfl rfl rfl (pv_leq rfl rfl) (fun n1 => ?_) (fun n1 => ?_)
  ·rw [if_pos n1] at ef
   repeat (first | refine yJ ?_ | refine yI rfl rfl rfl rfl rfl ?_)
   repeat (first | refine zF ?_ | refine zB ?_ | refine zJ rfl ?_)
   refine zY rfl rfl (zQ rfl rfl rfl) (code22_spec w0 26) ?_
   rintro _ _ ⟨rfl,rfl⟩
   repeat (first | refine zE ?_ | refine zM ?_ | refine L_stA rfl (vs := [_,_]) rfl rfl rfl rfl (c' := [_,_]) rfl rfl ?_)
   rw [ef]
   exact ⟨[_],X + (stC b (cellsS s (.slice a1 s.blocks.length c1) (.slice a2 s.kept.length c2) (.slice a3 s.locks.length c3) (.slice a4 s.preps.length c4) (.slice a5 s.dead.length c5) (.slice a6 s.outs.length c6) (.slice a7 s.sess.length c7)) + h1 + h2 + h3 + h4 + h5 + h6 + h7),_,⟨⟨_,rfl,zL rfl rfl rfl⟩,trivial⟩,PostS.same hs,yK.out⟩
  ·rw [if_neg n1] at ef
   repeat (first | refine yJ ?_ | refine yI rfl rfl rfl rfl rfl ?_)
   repeat (first | refine zF ?_ | refine zI rfl ?_)
   refine hold_join (fun g' L' => ∃ (R : Hp),Sub g' [(2,.pointer (some ⟨b2,0,none⟩)),(3,.pointer (some ⟨b3,0,none⟩)),(4,.pointer (some ⟨b4,0,none⟩)),(5,.pointer (some ⟨b5,0,none⟩)),(7,.slice a9 ts.length c9),(55,.bool (decide (o.lo < s.lo ∨ s.hi < o.hi ∨ (o.lo ≠ s.lo ∧ o.hi ≠ s.hi))))] ∧
    L' = X + (stC b (cellsS s (.slice a1 s.blocks.length c1) (.slice a2 s.kept.length c2) (.slice a3 s.locks.length c3) (.slice a4 s.preps.length c4) (.slice a5 s.dead.length c5) (.slice a6 s.outs.length c6) (.slice a7 s.sess.length c7)) + h1 + h2 + h3 + h4 + h5 + h6 + h7) + ptrC b2 b + opC b3 o (.slice x1 o.parts.length y1) (.slice x2 o.reads.length y2) (.slice x3 o.writes.length y3) (.slice x4 o.data.length y4) + resC b4 + spanC b5 o.lo o.hi + hf + fr + R) ?_ ?_
   ·refine yC [] [0,1,2,3,4,5,6,7,8,9,10,11,12,13,14,15,16,17,18,19,20,21,22,23,24,25,26,27,28,29,30,31,32,33,34,35,36,37,38] (by kernel_rfl) rfl (by kernel_rfl) (by kernel_rfl) ?_
    repeat (first | refine yI rfl rfl rfl rfl rfl ?_ | refine yE rfl rfl rfl rfl (yA rfl rfl rfl) ?_ | refine W_load rfl rfl rfl rfl (yF rfl) (zG rfl (zS rfl)) ?_)
    refine W_dec rfl rfl rfl rfl (pv_lss rfl rfl) (fun n2 => ?_) (fun n2 => ?_)
    ·repeat (first | refine yJ ?_ | refine yI rfl rfl rfl rfl rfl ?_ | refine W_skip rfl rfl rfl rfl ?_)
     rw [decide_eq_true (show o.lo < s.lo ∨ s.hi < o.hi ∨ (o.lo ≠ s.lo ∧ o.hi ≠ s.hi) from .inl n2)]
     exact ⟨_,(by repeat (first | exact zT _ | refine zO rfl ?_)),yK.out⟩
    ·repeat (first | refine yI rfl rfl rfl rfl rfl ?_ | refine yE rfl rfl rfl rfl (yA rfl rfl rfl) ?_ | refine W_load rfl rfl rfl rfl (yF rfl) (zG rfl (zS rfl)) ?_)
     refine W_dec rfl rfl rfl rfl (pv_gtr rfl rfl) (fun n3 => ?_) (fun n3 => ?_)
     ·repeat (first | refine yJ ?_ | refine yI rfl rfl rfl rfl rfl ?_ | refine W_skip rfl rfl rfl rfl ?_)
      rw [decide_eq_true (show o.lo < s.lo ∨ s.hi < o.hi ∨ (o.lo ≠ s.lo ∧ o.hi ≠ s.hi) from .inr (.inl n3))]
      exact ⟨_,(by repeat (first | exact zT _ | refine zO rfl ?_)),yK.out⟩
     ·repeat (first | refine yI rfl rfl rfl rfl rfl ?_ | refine yE rfl rfl rfl rfl (yA rfl rfl rfl) ?_ | refine W_load rfl rfl rfl rfl (yF rfl) (zG rfl (zS rfl)) ?_)
      refine W_dec rfl rfl rfl rfl (pv_neq rfl rfl) (fun n4 => ?_) (fun n4 => ?_)
      ·repeat (first | refine yI rfl rfl rfl rfl rfl ?_ | refine yE rfl rfl rfl rfl (yA rfl rfl rfl) ?_ | refine W_load rfl rfl rfl rfl (yF rfl) (zG rfl (zS rfl)) ?_)
       refine W_dec rfl rfl rfl rfl (pv_neq rfl rfl) (fun n5 => ?_) (fun n5 => ?_)
       ·repeat (first | refine yJ ?_ | refine yI rfl rfl rfl rfl rfl ?_)
        rw [decide_eq_true (show o.lo < s.lo ∨ s.hi < o.hi ∨ (o.lo ≠ s.lo ∧ o.hi ≠ s.hi) from .inr (.inr ⟨n4,n5⟩))]
        exact ⟨_,(by repeat (first | exact zT _ | refine zO rfl ?_)),yK.out⟩
       ·repeat (first | refine yJ ?_ | refine yI rfl rfl rfl rfl rfl ?_)
        rw [decide_eq_false (show ¬ (o.lo < s.lo ∨ s.hi < o.hi ∨ (o.lo ≠ s.lo ∧ o.hi ≠ s.hi)) by omega)]
        exact ⟨_,(by repeat (first | exact zT _ | refine zO rfl ?_)),yK.out⟩
      ·repeat (first | refine yJ ?_ | refine yI rfl rfl rfl rfl rfl ?_ | refine W_skip rfl rfl rfl rfl ?_)
       rw [decide_eq_false (show ¬ (o.lo < s.lo ∨ s.hi < o.hi ∨ (o.lo ≠ s.lo ∧ o.hi ≠ s.hi)) by omega)]
       exact ⟨_,(by repeat (first | exact zT _ | refine zO rfl ?_)),yK.out⟩
   ·rintro g' _ ⟨R,hsub,rfl⟩
    refine hold_env hsub ?_
    clear hsub g'
    refine hold_cond_d rfl (fun n2 => ?_) (fun n2 => ?_)
    ·rw [if_pos n2] at ef
     repeat (first | refine zF ?_ | refine zB ?_)
     refine zY rfl rfl (zQ rfl rfl rfl) (code22_spec w0 3) ?_
     rintro _ _ ⟨rfl,rfl⟩
     repeat (first | refine zE ?_ | refine zM ?_ | refine L_stA rfl (vs := [_,_]) rfl rfl rfl rfl (c' := [_,_]) rfl rfl ?_)
     rw [ef]
     exact ⟨[_],X + (stC b (cellsS s (.slice a1 s.blocks.length c1) (.slice a2 s.kept.length c2) (.slice a3 s.locks.length c3) (.slice a4 s.preps.length c4) (.slice a5 s.dead.length c5) (.slice a6 s.outs.length c6) (.slice a7 s.sess.length c7)) + h1 + h2 + h3 + h4 + h5 + h6 + h7),_,⟨⟨_,rfl,zL rfl rfl rfl⟩,trivial⟩,PostS.same hs,yK.out⟩
    ·rw [if_neg n2] at ef
     repeat (first | refine zF ?_ | refine zB ?_ | refine zK rfl rfl rfl ?_ | refine L_clo rfl rfl rfl ?_)
     refine zY rfl rfl (zQ rfl rfl rfl) (containsFuncI_spec w0 (hf + (X + h4 + ptrC b2 b + stC b [.int .i64 (s.lo),.int .i64 (s.hi),.int .i64 (s.epoch),.slice a1 s.blocks.length c1,.slice a2 s.kept.length c2,.slice a3 s.locks.length c3,.slice a4 s.preps.length c4,.slice a5 s.dead.length c5,.slice a6 s.outs.length c6,.slice a7 s.sess.length c7])) (.slice a9 ts.length c9) ts 208 [.pointer (some ⟨b2,0,none⟩)] (isPrep s) (oof.rdh.mono rfl) (by omega)
      (fun x hx => Spec.frameL (hadd_comm _ _) (freeze2_spec w0 (X + h4) b b2 _ _ _ _ _ _ (.slice a4 s.preps.length c4) _ _ _ s.preps x o4.rd0 (by omega)))) ?_
     rintro _ _ ⟨rfl,rfl⟩
     cases hbz : ts.any (isPrep s)
     rotate_left
     ·rw [if_pos hbz] at ef
      repeat (first | refine zF ?_ | refine zB ?_ | refine zE ?_ | refine zK rfl rfl rfl ?_ | refine zJ rfl ?_)
      refine zY rfl rfl (zQ rfl rfl rfl) (code22_spec w0 11) ?_
      rintro _ _ ⟨rfl,rfl⟩
      repeat (first | refine zE ?_ | refine zM ?_ | refine L_stA rfl (vs := [_,_]) rfl rfl rfl rfl (c' := [_,_]) rfl rfl ?_)
      rw [ef]
      exact ⟨[_],X + (stC b (cellsS s (.slice a1 s.blocks.length c1) (.slice a2 s.kept.length c2) (.slice a3 s.locks.length c3) (.slice a4 s.preps.length c4) (.slice a5 s.dead.length c5) (.slice a6 s.outs.length c6) (.slice a7 s.sess.length c7)) + h1 + h2 + h3 + h4 + h5 + h6 + h7),_,⟨⟨_,rfl,zL rfl rfl rfl⟩,trivial⟩,PostS.same hs,yK.out⟩
     ·rw [if_neg (by rw [hbz]; simp)] at ef
      repeat (first | refine zF ?_ | refine zB ?_ | refine zE ?_ | refine zK rfl rfl rfl ?_ | refine L_ld rfl rfl rfl rfl rfl ?_ | refine zP ?_ | refine zI rfl ?_)
      refine zY rfl rfl (zQ rfl rfl rfl) (end_spec w0 hf b (.int .i64 s.lo) (.int .i64 s.hi) (.int .i64 s.epoch) (.slice a1 s.blocks.length c1) (.slice a2 s.kept.length c2) (.slice a4 s.preps.length c4) (.slice a6 s.outs.length c6) (.slice a7 s.sess.length c7) (.slice a3 s.locks.length c3) (.slice a5 s.dead.length c5) (.slice a9 ts.length c9) s.locks s.dead ts h3 h5 oof.rdh o3 o5 hk.dead (by omega) (by omega) (by omega)) ?_
      rintro _ _ ⟨E1,vl',vd',h3',h5',rfl,o3',o5',rfl⟩
      obtain ⟨a3',c3',rfl⟩ := o3'.shape
      obtain ⟨a5',c5',rfl⟩ := o5'.shape
      repeat (first | refine zF ?_ | refine zR ?_ | refine zB ?_ | refine zE ?_ | refine zK rfl rfl rfl ?_ | refine zZ rfl rfl rfl rfl rfl ?_ | refine L_ld rfl rfl rfl rfl rfl ?_ | refine L_len rfl rfl rfl ?_ | refine L_clo rfl rfl rfl ?_)
      refine hold_count s.kept.length (fun k g L => ∃ (vo : Value) (h8 R : Hp),g = [(2,.pointer (some ⟨b2,0,none⟩)),(3,.pointer (some ⟨b3,0,none⟩)),(4,.pointer (some ⟨b4,0,none⟩)),(5,.pointer (some ⟨b5,0,none⟩)),(8,.func (.func 209) #[] #[.pointer (some ⟨b5,0,none⟩)]),(9,vo),(108,.slice a2 s.kept.length c2),(109,.int .i64 s.kept.length),(110,.int .i64 k)] ∧
        OwL w0 (X + h2) ((s.kept.take k).filter (inK o.lo o.hi)) vo h8 ∧ L = X + (stC b (cellsS s (.slice a1 s.blocks.length c1) (.slice a2 s.kept.length c2) ((.slice a3' (withoutL s.locks ts).length c3')) (.slice a4 s.preps.length c4) ((.slice a5' (endD s.dead ts).length c5')) (.slice a6 s.outs.length c6) (.slice a7 s.sess.length c7)) + h1 + h2 + h3' + h4 + h5' + h6 + h7) + ptrC b2 b + opC b3 o (.slice x1 o.parts.length y1) (.slice x2 o.reads.length y2) (.slice x3 o.writes.length y3) (.slice x4 o.data.length y4) + resC b4 + spanC b5 o.lo o.hi + h8 + fr + R) _
       ⟨_,0,_,rfl,OwL.nil _ _,by simp only [yB]; exact yK.out⟩ (by repeat (first | exact zT _ | refine zO rfl ?_)) ?_
      clear R
      rintro k g L hkk ⟨vo,h8,R,rfl,o8,rfl⟩
      repeat (first | refine zF ?_ | refine zB ?_)
      refine yG rfl rfl (pv_lss rfl rfl) (fun n3 => ?_) (fun n3 => ?_)
      ·have hx : k < s.kept.length := by omega
       obtain ⟨bw,ow,rfl,ew,hrw,hat⟩ := o2.rd0.at hx
       obtain ⟨aw,cw,rfl,hdat⟩ := id hrw
       repeat (first | refine zF ?_ | refine zR ?_ | refine zB ?_ | refine zE ?_ | refine zK rfl rfl rfl ?_ | refine zP ?_ | refine zJ rfl ?_ | refine L_idx rfl rfl (by omega) rfl rfl ?_ | refine L_atA rfl (by assumption) rfl rfl rfl rfl ?_ | refine L_ldA rfl (vs := [_,_,_]) rfl rfl rfl rfl rfl ?_ | refine L_stA rfl (vs := [_,_,_]) rfl rfl rfl rfl (c' := [_,_,_]) rfl rfl ?_ | refine L_alloc (c := [_,_,_]) rfl rfl rfl (fun _ => ?_))
       rename_i b11
       refine zY rfl rfl (zQ rfl rfl rfl) (freeze3_spec w0 s.kept[k] _ (X + h2) hrw b5 o.lo o.hi) ?_
       rintro _ _ ⟨rfl,rfl⟩
       cases hin : inK o.lo o.hi s.kept[k]
       ·repeat (first | refine zB ?_ | refine zE ?_ | refine zK rfl rfl rfl ?_ | refine zP ?_ | refine zI rfl ?_ | refine L_add rfl rfl (by omega) (by omega) rfl rfl ?_)
        exact ⟨hx,_,(by repeat (first | exact zT _ | refine zO rfl ?_)),vo,h8,_,rfl,by rw [List.take_succ_eq_append_getElem hx,List.filter_append,List.filter_cons,if_neg (by rw [hin]; simp),List.filter_nil,List.append_nil]; exact o8,yK.out⟩
       ·repeat (first | refine zB ?_ | refine zE ?_ | refine zK rfl rfl rfl ?_ | refine zJ rfl ?_ | refine L_ldA rfl (vs := [_,_,_]) rfl rfl rfl rfl rfl ?_ | refine L_bs (vs := [_]) (cells := [_,_,_]) rfl rfl rfl rfl rfl rfl (fun _ => ?_))
        refine L_eff rfl rfl (ev_appendL (X := X + h2) (ns := [s.kept[k]]) (h := h8) rfl rfl o8 (rd_one rfl) (All2.one hrw) rfl rfl rfl rfl rfl (by have := filter_len (inK o.lo o.hi) (s.kept.take k); rw [List.length_take] at this; simp only [List.length_singleton]; omega)) ?_
        rintro vo' _ ⟨h8',o8',rfl⟩
        repeat (first | refine zB ?_ | refine zE ?_ | refine zK rfl rfl rfl ?_ | refine L_add rfl rfl (by omega) (by omega) rfl rfl ?_)
        exact ⟨hx,_,(by repeat (first | exact zT _ | refine zO rfl ?_)),vo',h8',_,rfl,by rw [List.take_succ_eq_append_getElem hx,List.filter_append,List.filter_cons,if_pos hin,List.filter_nil]; exact o8',yK.out⟩
      ·have hkn : k = s.kept.length := by omega
       subst hkn
       rw [List.take_length] at o8
       obtain ⟨a8,c8,rfl⟩ := o8.shape
       have hkl := filter_len (inK o.lo o.hi) s.kept
       have hbl := filter_len (fun x : Blk => inS o.lo o.hi x.no) s.blocks
       have hpl := partE_len (l := s.blocks.filter fun x => inS o.lo o.hi x.no) (k := s.kept.filter (inK o.lo o.hi)) (fun x hx => hk.blocks.four x (List.mem_filter.1 hx).1) (fun x hx => hk.kept.1 x (List.mem_filter.1 hx).1)
       repeat (first | refine zF ?_ | refine yD ?_ | refine zE ?_ | refine zI rfl ?_)
       refine yC [6,8] [0,1,2,3,4,5,7,6,8,9] (by kernel_rfl) rfl (by kernel_rfl) (by kernel_rfl) ?_
       repeat (first | refine yI rfl rfl rfl rfl rfl ?_ | refine yE rfl rfl rfl rfl (yA rfl rfl rfl) ?_ | refine W_load rfl rfl rfl rfl (yF rfl) (zG rfl (zS rfl)) ?_ | refine W_load rfl rfl rfl rfl (yF rfl) (zL (vs := [_,_]) rfl rfl rfl) ?_)
       refine W_call rfl rfl rfl rfl (zQ rfl rfl rfl) (in19_spec w0 (X + h1) (.slice a1 s.blocks.length c1) s.blocks o.lo o.hi o1.rd0 (by omega) (fun x hx => by have := hk.blocks.four x hx; omega)) (Kept.all _) ?_
       rintro vb _ ⟨E2,hb2,ob2,rfl⟩
       obtain ⟨a10,c10,rfl⟩ := ob2.shape
       refine ⟨(by repeat (first | exact trivial | exact zG rfl (zS rfl) | exact zL rfl rfl rfl | exact zX rfl (by assumption) rfl | exact zH rfl (by assumption) rfl | exact zH rfl (by assumption) (by assumption) | refine ⟨?_,?_⟩)),?_⟩
       skip
       refine W_call rfl rfl rfl rfl (zQ rfl rfl rfl) (part22_spec w0 (X + h2 + h8 + (E2 + hb2)) _ _ _ _ (ob2.rd (R := X + h2 + h8) (hf := ⟨by ac_rfl⟩)) (o8.rd0.mono rfl) (by omega)) (Kept.all _) ?_
       rintro vp _ ⟨h9,o9,rfl⟩
       obtain ⟨a11,c11,rfl⟩ := o9.shape
       refine ⟨(by repeat (first | exact trivial | exact zG rfl (zS rfl) | exact zL rfl rfl rfl | exact zX rfl (by assumption) rfl | exact zH rfl (by assumption) rfl | exact zH rfl (by assumption) (by assumption) | refine ⟨?_,?_⟩)),?_⟩
       repeat (first | refine yJ ?_ | refine yI rfl rfl rfl rfl rfl ?_)
       rw [show partE (s.blocks.filter fun x => inS o.lo o.hi x.no) (s.kept.filter (inK o.lo o.hi)) = partData s o.lo o.hi from rfl] at o9 hpl ⊢
       generalize hpd : partData s o.lo o.hi = pd at *
       repeat (refine zF ?_)
       refine yC [7,11] [0,1,2,3,4,5,6,7,8,9,10,11] (by kernel_rfl) rfl (by kernel_rfl) (by kernel_rfl) ?_
       repeat (first | refine yI rfl rfl rfl rfl rfl ?_ | refine yE rfl rfl rfl rfl (yA rfl rfl rfl) ?_ | refine W_load rfl rfl rfl rfl (yF rfl) (zG rfl (zS rfl)) ?_ | refine W_load rfl rfl rfl rfl (yF rfl) (zL (vs := [_,_]) rfl rfl rfl) ?_)
       refine W_call rfl rfl rfl rfl (zQ rfl rfl rfl) (without19_spec w0 (X + h1) (.slice a1 s.blocks.length c1) s.blocks o.lo o.hi o1.rd0 (by omega) (fun x hx => by have := hk.blocks.four x hx; omega)) (Kept.all _) ?_
       rintro vb _ ⟨E3,h1',o1',rfl⟩
       obtain ⟨a1',c1',rfl⟩ := o1'.shape
       refine ⟨(by repeat (first | exact trivial | exact zG rfl (zS rfl) | exact zL rfl rfl rfl | exact zX rfl (by assumption) rfl | exact zH rfl (by assumption) rfl | exact zH rfl (by assumption) (by assumption) | refine ⟨?_,?_⟩)),?_⟩
       repeat (first | refine yI rfl rfl rfl rfl rfl ?_ | refine yE rfl rfl rfl rfl (yA rfl rfl rfl) ?_)
       refine W_eff (W' := ?wk1) rfl rfl rfl rfl (ev_store rfl rfl rfl rfl rfl (c' := [_,_,_,_,_,_,_,_,_,_]) rfl) ?wkk1 ?wrest1
       case wkk1 => repeat (first | exact Kept.nil | refine Kept.drop (by kernel_rfl) ?_ | refine Kept.keep ?_)
       rintro _ _ rfl
       refine ⟨(by repeat (first | exact trivial | exact zG rfl (zS rfl) | exact zL rfl rfl rfl | exact zX rfl (by assumption) rfl | exact zH rfl (by assumption) rfl | exact zH rfl (by assumption) (by assumption) | refine ⟨?_,?_⟩)),?_⟩
       repeat (refine yJ ?_)
       repeat (refine zF ?_)
       refine yC [7,11] [0,1,2,3,4,5,6,7,8,9,10,11] (by kernel_rfl) rfl (by kernel_rfl) (by kernel_rfl) ?_
       repeat (first | refine yI rfl rfl rfl rfl rfl ?_ | refine yE rfl rfl rfl rfl (yA rfl rfl rfl) ?_ | refine W_load rfl rfl rfl rfl (yF rfl) (zG rfl (zS rfl)) ?_)
       refine W_call rfl rfl rfl rfl (zQ rfl rfl rfl) (deleteFuncKpt_spec w0 (X + spanC b5 o.lo o.hi) s.kept (.slice a2 s.kept.length c2) h2 209 [.pointer (some ⟨b5,0,none⟩)] (inK o.lo o.hi) (o2.mono rfl) (by omega) (fun Y x e hx he => Spec.frameL (hadd_comm _ _) (freeze3_spec w0 x e Y he b5 o.lo o.hi))) (Kept.all _) ?_
       rintro vk _ ⟨h2',o2',rfl⟩
       obtain ⟨a2',c2',rfl⟩ := o2'.shape
       refine ⟨(by repeat (first | exact trivial | exact zG rfl (zS rfl) | exact zL rfl rfl rfl | exact zX rfl (by assumption) rfl | exact zH rfl (by assumption) rfl | exact zH rfl (by assumption) (by assumption) | refine ⟨?_,?_⟩)),?_⟩
       repeat (first | refine yI rfl rfl rfl rfl rfl ?_ | refine yE rfl rfl rfl rfl (yA rfl rfl rfl) ?_)
       refine W_eff (W' := ?wk2) rfl rfl rfl rfl (ev_store rfl rfl rfl rfl rfl (c' := [_,_,_,_,_,_,_,_,_,_]) rfl) ?wkk2 ?wrest2
       case wkk2 => repeat (first | exact Kept.nil | refine Kept.drop (by kernel_rfl) ?_ | refine Kept.keep ?_)
       rintro _ _ rfl
       refine ⟨(by repeat (first | exact trivial | exact zG rfl (zS rfl) | exact zL rfl rfl rfl | exact zX rfl (by assumption) rfl | exact zH rfl (by assumption) rfl | exact zH rfl (by assumption) (by assumption) | refine ⟨?_,?_⟩)),?_⟩
       repeat (refine yJ ?_)
       obtain ⟨nlo,hnlo⟩ : ∃ x,x = if o.lo = s.lo ∧ o.hi = s.hi then 0 else if o.lo = s.lo then o.hi else s.lo := ⟨_,rfl⟩
       obtain ⟨nhi,hnhi⟩ : ∃ x,x = if o.lo = s.lo ∧ o.hi = s.hi then 0 else if o.lo = s.lo then s.hi else o.lo := ⟨_,rfl⟩
       repeat (refine zF ?_)
       refine hold_join (fun g' L' => ∃ (R : Hp),Sub g' [(2,.pointer (some ⟨b2,0,none⟩)),(3,.pointer (some ⟨b3,0,none⟩)),(4,.pointer (some ⟨b4,0,none⟩)),(12,.slice a11 pd.length c11)] ∧
        L' = X + spanC b5 o.lo o.hi + E3 + (stC b [.int .i64 (nlo),.int .i64 (nhi),.int .i64 (s.epoch),(.slice a1' (s.blocks.filter fun x => !inS o.lo o.hi x.no).length c1'),(.slice a2' (s.kept.filter fun x => !inK o.lo o.hi x).length c2'),(.slice a3' (withoutL s.locks ts).length c3'),.slice a4 s.preps.length c4,(.slice a5' (endD s.dead ts).length c5'),.slice a6 s.outs.length c6,.slice a7 s.sess.length c7] + h1' + h2' + h3' + h4 + h5' + h6 + h7) + h9 + ptrC b2 b + opC b3 o (.slice x1 o.parts.length y1) (.slice x2 o.reads.length y2) (.slice x3 o.writes.length y3) (.slice x4 o.data.length y4) + resC b4 + fr + R) ?_ ?_
       ·repeat (first | refine zF ?_ | refine zR ?_)
        refine yC [2] [0,1,2,3,4] (by kernel_rfl) rfl (by kernel_rfl) (by kernel_rfl) ?_
        repeat (first | refine W_load rfl rfl rfl rfl (yF rfl) (zG rfl (zS rfl)) ?_ | refine W_load rfl rfl rfl rfl (yF rfl) (zL (vs := [_,_]) rfl rfl rfl) ?_)
        refine W_call rfl rfl rfl rfl (zQ rfl rfl rfl) (span22_spec w0 b (.int .i64 s.epoch) (.slice a1' (s.blocks.filter fun x => !inS o.lo o.hi x.no).length c1') (.slice a2' (s.kept.filter fun x => !inK o.lo o.hi x).length c2') (.slice a3' (withoutL s.locks ts).length c3') (.slice a4 s.preps.length c4) (.slice a5' (endD s.dead ts).length c5') (.slice a6 s.outs.length c6) (.slice a7 s.sess.length c7) s.lo s.hi) (Kept.all _) ?_
        rintro _ _ ⟨rfl,rfl⟩
        refine ⟨(by repeat (first | exact trivial | exact zG rfl (zS rfl) | exact zL rfl rfl rfl | exact zX rfl (by assumption) rfl | exact zH rfl (by assumption) rfl | exact zH rfl (by assumption) (by assumption) | refine ⟨?_,?_⟩)),?_⟩
        skip
        refine yE rfl rfl rfl rfl (pv_eql_struct (r := (decide (o.lo = s.lo) && (decide (o.hi = s.hi) && true))) rfl rfl (by kernel_rfl) (by kernel_rfl) (by kernel_rfl)) ?_
        by_cases q1 : o.lo = s.lo
        ·by_cases q2 : o.hi = s.hi
         ·rw [decide_eq_true q1,decide_eq_true q2,show (true && (true && true)) = true from rfl]
          repeat (first | refine yJ ?_ | refine yI rfl rfl rfl rfl rfl ?_)
          repeat (refine zJ rfl ?_)
          refine yC [5,9] [0,1,2,3,4,5,6,7,8,9] (by kernel_rfl) rfl (by kernel_rfl) (by kernel_rfl) ?_
          repeat (first | refine yI rfl rfl rfl rfl rfl ?_ | refine yE rfl rfl rfl rfl (yA rfl rfl rfl) ?_ | refine W_load rfl rfl rfl rfl (yF rfl) (zG rfl (zS rfl)) ?_)
          refine W_eff rfl rfl rfl rfl (ev_store rfl rfl rfl rfl rfl (c' := [_,_,_,_,_,_,_,_,_,_]) rfl) (Kept.all _) ?_
          rintro _ _ rfl
          refine ⟨(by repeat (first | exact trivial | exact zG rfl (zS rfl) | exact zL rfl rfl rfl | exact zX rfl (by assumption) rfl | exact zH rfl (by assumption) rfl | exact zH rfl (by assumption) (by assumption) | refine ⟨?_,?_⟩)),?_⟩
          repeat (first | refine yI rfl rfl rfl rfl rfl ?_ | refine yE rfl rfl rfl rfl (yA rfl rfl rfl) ?_)
          refine W_eff rfl rfl rfl rfl (ev_store rfl rfl rfl rfl rfl (c' := [_,_,_,_,_,_,_,_,_,_]) rfl) (Kept.all _) ?_
          rintro _ _ rfl
          refine ⟨(by repeat (first | exact trivial | exact zG rfl (zS rfl) | exact zL rfl rfl rfl | exact zX rfl (by assumption) rfl | exact zH rfl (by assumption) rfl | exact zH rfl (by assumption) (by assumption) | refine ⟨?_,?_⟩)),?_⟩
          repeat (refine yJ ?_)
          skip
          rw [show nlo = 0 by rw [hnlo,if_pos ⟨q1,q2⟩],show nhi = 0 by rw [hnhi,if_pos ⟨q1,q2⟩]]
          exact ⟨_,(by repeat (first | exact zT _ | refine zO rfl ?_)),yK.out⟩
         ·rw [decide_eq_true q1,decide_eq_false q2,show (true && (false && true)) = false from rfl]
          repeat (first | refine yJ ?_ | refine yI rfl rfl rfl rfl rfl ?_)
          repeat (first | refine zF ?_ | refine zI rfl ?_)
          refine yC [] [0,1,2,3,4,5,6,7,8] (by kernel_rfl) rfl (by kernel_rfl) (by kernel_rfl) ?_
          repeat (first | refine yI rfl rfl rfl rfl rfl ?_ | refine yE rfl rfl rfl rfl (yA rfl rfl rfl) ?_ | refine W_load rfl rfl rfl rfl (yF rfl) (zG rfl (zS rfl)) ?_)
          refine W_yes rfl rfl rfl rfl (pv_eql rfl rfl) q1 ?_
          repeat (first | refine yJ ?_ | refine yI rfl rfl rfl rfl rfl ?_)
          repeat (first | refine zB ?_ | refine zE ?_ | refine zK rfl rfl rfl ?_ | refine zZ rfl rfl rfl rfl rfl ?_ | refine L_ld rfl rfl rfl rfl rfl ?_ | refine zJ rfl ?_ | refine L_st rfl rfl rfl (c' := [_,_,_,_,_,_,_,_,_,_]) rfl rfl rfl rfl ?_)
          rw [show nlo = o.hi by rw [hnlo,if_neg (fun h => q2 h.2),if_pos q1],show nhi = s.hi by rw [hnhi,if_neg (fun h => q2 h.2),if_pos q1]]
          exact ⟨_,(by repeat (first | exact zT _ | refine zO rfl ?_)),yK.out⟩
        ·rw [decide_eq_false q1,show (false && (decide (o.hi = s.hi) && true)) = false from rfl]
         repeat (first | refine yJ ?_ | refine yI rfl rfl rfl rfl rfl ?_)
         repeat (first | refine zF ?_ | refine zI rfl ?_)
         refine yC [] [0,1,2,3,4,5,6,7,8] (by kernel_rfl) rfl (by kernel_rfl) (by kernel_rfl) ?_
         repeat (first | refine yI rfl rfl rfl rfl rfl ?_ | refine yE rfl rfl rfl rfl (yA rfl rfl rfl) ?_ | refine W_load rfl rfl rfl rfl (yF rfl) (zG rfl (zS rfl)) ?_)
         refine W_no rfl rfl rfl rfl (pv_eql rfl rfl) q1 ?_
         repeat (first | refine yJ ?_ | refine yI rfl rfl rfl rfl rfl ?_)
         repeat (first | refine zB ?_ | refine zE ?_ | refine zK rfl rfl rfl ?_ | refine zZ rfl rfl rfl rfl rfl ?_ | refine L_ld rfl rfl rfl rfl rfl ?_ | refine zI rfl ?_ | refine L_st rfl rfl rfl (c' := [_,_,_,_,_,_,_,_,_,_]) rfl rfl rfl rfl ?_)
         rw [show nlo = s.lo by rw [hnlo,if_neg (fun h => q1 h.1),if_neg q1],show nhi = o.lo by rw [hnhi,if_neg (fun h => q1 h.1),if_neg q1]]
         exact ⟨_,(by repeat (first | exact zT _ | refine zO rfl ?_)),yK.out⟩
       ·rintro g' _ ⟨R,hsub,rfl⟩
        refine hold_env hsub ?_
        clear hsub g'
        repeat (first | refine zF ?_ | refine zB ?_ | refine zE ?_ | refine zK rfl rfl rfl ?_ | refine zZ rfl rfl rfl rfl rfl ?_ | refine L_ld rfl rfl rfl rfl rfl ?_ | refine L_st rfl rfl rfl (c' := [_,_,_,_,_,_,_,_,_,_]) rfl rfl rfl rfl ?_)
        refine yC [13,15,16,20] [0,1,2,3,4,5,6,7,8,9,10,11,12,13,14,15,16,17,18,19,20] (by kernel_rfl) rfl (by kernel_rfl) (by kernel_rfl) ?_
        repeat (first | refine yI rfl rfl rfl rfl rfl ?_ | refine yE rfl rfl rfl rfl (yA rfl rfl rfl) ?_ | refine W_load rfl rfl rfl rfl (yF rfl) (zG rfl (zS rfl)) ?_)
        refine W_call rfl rfl rfl rfl (zQ rfl rfl rfl) (cloneB_spec w0 h9 (.slice a11 pd.length c11) pd o9.rdh (by omega)) (Kept.all _) ?_
        rintro _ _ ⟨h10,o10,rfl⟩
        obtain ⟨a12,c12,rfl⟩ := o10.shape
        refine ⟨(by repeat (first | exact trivial | exact zG rfl (zS rfl) | exact zL rfl rfl rfl | exact zX rfl (by assumption) rfl | exact zH rfl (by assumption) rfl | exact zH rfl (by assumption) (by assumption) | refine ⟨?_,?_⟩)),?_⟩
        repeat (refine yE rfl rfl rfl rfl (pv_build (vs := [_,_,_,_]) (cells := [_,_,_,_]) rfl rfl) ?_)
        refine W_eff rfl rfl rfl rfl (ev_buildSlice (vs := [_]) (cells := [_,_,_,_]) rfl rfl rfl rfl) (Kept.all _) ?_
        rintro _ _ ⟨b13,rfl,rfl⟩
        refine ⟨(by repeat (first | exact trivial | exact zG rfl (zS rfl) | exact zL rfl rfl rfl | exact zX rfl (by assumption) rfl | exact zH rfl (by assumption) rfl | exact zH rfl (by assumption) (by assumption) | refine ⟨?_,?_⟩)),?_⟩
        have hnew : Rep.rd w0 (X + h10) (⟨o.epoch,o.lo,o.hi,pd⟩ : Outp) [.int .i64 o.epoch,.int .i64 o.lo,.int .i64 o.hi,.slice a12 pd.length c12] := ⟨a12,c12,rfl,o10.plainB.rd (X := 0) (R := X)⟩
        refine W_eff rfl rfl rfl rfl (ev_appendL (X := X + h10) (ns := [(⟨o.epoch,o.lo,o.hi,pd⟩ : Outp)]) (h := h6) rfl rfl (o6.mono rfl) (rd_one rfl) (All2.one hnew) rfl rfl rfl rfl rfl (by simp only [List.length_singleton]; omega)) (Kept.all _) ?_
        rintro vo' _ ⟨h6',o6',rfl⟩
        obtain ⟨a6',c6',rfl⟩ := o6'.shape
        refine ⟨(by repeat (first | exact trivial | exact zG rfl (zS rfl) | exact zL rfl rfl rfl | exact zX rfl (by assumption) rfl | exact zH rfl (by assumption) rfl | exact zH rfl (by assumption) (by assumption) | refine ⟨?_,?_⟩)),?_⟩
        repeat (first | refine yI rfl rfl rfl rfl rfl ?_ | refine yE rfl rfl rfl rfl (yA rfl rfl rfl) ?_)
        refine W_eff (W' := ?wk3) rfl rfl rfl rfl (ev_store rfl rfl rfl rfl rfl (c' := [_,_,_,_,_,_,_,_,_,_]) rfl) ?wkk3 ?wrest3
        case wkk3 => repeat (first | exact Kept.nil | refine Kept.drop (by kernel_rfl) ?_ | refine Kept.keep ?_)
        rintro _ _ rfl
        refine ⟨(by repeat (first | exact trivial | exact zG rfl (zS rfl) | exact zL rfl rfl rfl | exact zX rfl (by assumption) rfl | exact zH rfl (by assumption) rfl | exact zH rfl (by assumption) (by assumption) | refine ⟨?_,?_⟩)),?_⟩
        repeat (refine yJ ?_)
        repeat (first | refine zF ?_ | refine zB ?_ | refine zE ?_ | refine zK rfl rfl rfl ?_ | refine zM ?_ | refine L_build (vs := [_]) (cells := [_,_]) rfl rfl rfl rfl ?_ | refine L_stA rfl (vs := [_,_]) rfl rfl rfl rfl (c' := [_,_]) rfl rfl ?_)
        rw [ef]
        subst hnlo hnhi
        exact ⟨[_],X + (spanC b5 o.lo o.hi + E3 + h10) + (stC b [.int .i64 (if o.lo = s.lo ∧ o.hi = s.hi then 0 else if o.lo = s.lo then o.hi else s.lo),.int .i64 (if o.lo = s.lo ∧ o.hi = s.hi then 0 else if o.lo = s.lo then s.hi else o.lo),.int .i64 (o.epoch),(.slice a1' (s.blocks.filter fun x => !inS o.lo o.hi x.no).length c1'),(.slice a2' (s.kept.filter fun x => !inK o.lo o.hi x).length c2'),(.slice a3' (withoutL s.locks ts).length c3'),.slice a4 s.preps.length c4,(.slice a5' (endD s.dead ts).length c5'),(.slice a6' (s.outs ++ [(⟨o.epoch,o.lo,o.hi,pd⟩ : Outp)]).length c6'),.slice a7 s.sess.length c7] + h1' + h2' + h3' + h4 + h5' + h6' + h7) + h9,_,⟨⟨_,rfl,zL rfl rfl rfl⟩,trivial⟩,⟨spanC b5 o.lo o.hi + E3 + h10,_,h9,⟨a11,c11,rfl,o9⟩,
         ⟨a1',c1',a2',c2',a3',c3',a4,c4,a5',c5',a6',c6',a7,c7,h1',h2',h3',h4,h5',h6',h7,o1'.mono (show X + (spanC b5 o.lo o.hi + E3 + h10) = E3 + (X + spanC b5 o.lo o.hi + h10) by ac_rfl),o2'.mono (show X + (spanC b5 o.lo o.hi + E3 + h10) = X + spanC b5 o.lo o.hi + (E3 + h10) by ac_rfl),o3',o4.mono rfl,o5',o6'.mono (show X + (spanC b5 o.lo o.hi + E3 + h10) = X + h10 + (spanC b5 o.lo o.hi + E3) by ac_rfl),o7.mono rfl,rfl⟩,rfl⟩,yK.out⟩
end Sl
end Go.Proofs.YtpkealohodeifaaGreat
namespace Go.Proofs.YtpkealohodeifaaGreat
open Go Go.RowKit
namespace Sl
set_option maxHeartbeats 16000000
set_option maxRecDepth 4000
set_option synthInstance.maxHeartbeats 400000
set_option synthInstance.maxSize 100000
attribute [local irreducible] Hold HoldL HoldW
theorem filter2_len {α : Type} (p q : α → Bool) (h : ∀ x,p x = true → q x = false) : ∀ l : List α,(l.filter p).length + (l.filter q).length ≤ l.length
 | [] => by simp
 | x :: l => by
  have ih := filter2_len p q h l
  rw [List.filter_cons,List.filter_cons]
  by_cases h1 : p x = true
  ·rw [if_pos h1,if_neg (by rw [h x h1]; simp)]; simp only [List.length_cons]; omega
  ·rw [if_neg h1]; split <;> simp only [List.length_cons] <;> omega
theorem ltKey_asym {s n s' n' : Int} (h : ltKey s n s' n') : ¬ ltKey s' n' s n := by unfold ltKey at *; omega
theorem ltKey_trans {a b c d e f : Int} (h : ltKey a b c d) (h2 : ltKey c d e f) : ltKey a b e f := by unfold ltKey at *; omega
theorem keepK_len (l : List Kpt) (snap no : Int) (d : List Bt) : (keepK l snap no d).length ≤ l.length + 1 := by
 have := filter2_len (fun x : Kpt => decide (ltKey x.snap x.no snap no)) (fun x : Kpt => decide (ltKey snap no x.snap x.no)) (fun x h => decide_eq_false (ltKey_asym (of_decide_eq_true h))) l
 unfold keepK
 rw [List.length_append,List.length_cons]; omega
theorem keepK_ok {l : List Kpt} (h : OkK l) (snap no : Int) {d : List Bt} (hd : d.length = 4) : OkK (keepK l snap no d) := by
 refine ⟨?_,?_⟩
 ·intro x hx
  unfold keepK at hx
  rcases List.mem_append.1 hx with hx | hx
  ·exact h.1 x (List.mem_filter.1 hx).1
  ·rcases List.mem_cons.1 hx with rfl | hx
   ·exact hd
   ·exact h.1 x (List.mem_filter.1 hx).1
 ·unfold keepK
  refine List.pairwise_append.2 ⟨h.2.filter _,List.pairwise_cons.2 ⟨fun x hx => of_decide_eq_true (List.mem_filter.1 hx).2,h.2.filter _⟩,?_⟩
  intro x hx y hy
  have h1 : ltKey x.snap x.no snap no := of_decide_eq_true (List.mem_filter.1 hx).2
  rcases List.mem_cons.1 hy with rfl | hy
  ·exact h1
  ·exact ltKey_trans h1 (of_decide_eq_true (List.mem_filter.1 hy).2)
theorem wroteB_ok : ∀ (ws : List Wr) {l : List Blk},OkB l → OkB (wroteB l ws)
 | [],_,h => h
 | w :: ws,l,h => wroteB_ok ws (l := setB l w.block w.data) (setB_ok h _ _)
theorem keptAll_ok {bs : List Blk} (hb : OkB bs) (snap : Int) : ∀ (ns : List Int) {l : List Kpt},OkK l → OkK (keptAll l snap bs ns)
 | [],_,h => h
 | n :: ns,l,h => keptAll_ok hb snap ns (l := keepK l snap n (getB bs n)) (keepK_ok h _ _ (getB_len hb n))
theorem keptAll_len (bs : List Blk) (snap : Int) : ∀ (ns : List Int) (l : List Kpt),(keptAll l snap bs ns).length ≤ l.length + ns.length
 | [],l => by simp [keptAll]
 | n :: ns,l => by
  have := keptAll_len bs snap ns (keepK l snap n (getB bs n))
  have h2 := keepK_len l snap n (getB bs n)
  show (keptAll (keepK l snap n (getB bs n)) snap bs ns).length ≤ _
  rw [List.length_cons]; omega
theorem wroteB_succ (l : List Blk) {ws : List Wr} {k : Nat} (h : k < ws.length) : wroteB l (ws.take (k + 1)) = setB (wroteB l (ws.take k)) ws[k].block ws[k].data := by
 unfold wroteB; rw [List.take_succ_eq_append_getElem h,List.foldl_append]; rfl
theorem keptAll_succ (l : List Kpt) (snap : Int) (bs : List Blk) {ns : List Int} {k : Nat} (h : k < ns.length) : keptAll l snap bs (ns.take (k + 1)) = keepK (keptAll l snap bs (ns.take k)) snap ns[k] (getB bs ns[k]) := by
 unfold keptAll; rw [List.take_succ_eq_append_getElem h,List.foldl_append]; rfl
theorem mine_mem {ls : List Lk} {p : Prp} {x : Int} (h : x ∈ mineF ls p) : ∃ n : Nat,n < 64 ∧ x = n ∧ 0 < p.snap ∧ p.lo ≤ x ∧ x < p.hi ∧ hasL ls p.txn x false = true := by
 unfold mineF at h
 split at h
 ·rename_i hp
  obtain ⟨h1,h2⟩ := List.mem_filter.1 h
  obtain ⟨n,hn,rfl⟩ := List.mem_map.1 h1
  simp only [Bool.and_eq_true,decide_eq_true_eq] at h2
  exact ⟨n,List.mem_range.1 hn,rfl,hp,h2.1.1,h2.1.2,h2.2⟩
 ·simp at h
theorem All2.eraseIdx {α : Type} {R : α → List Value → Prop} : ∀ {xs : List α} {ys : List (List Value)} (h : All2 R xs ys) (i : Nat),All2 R (xs.eraseIdx i) (ys.eraseIdx i)
 | [],[],h,_ => h
 | x :: xs,y :: ys,h,0 => h.2
 | x :: xs,y :: ys,h,i + 1 => ⟨h.1,All2.eraseIdx h.2 i⟩
theorem erase_tx : ∀ {ps : List Prp} {i : Nat} {t : Int} (hi : i < ps.length),ps.Pairwise (fun a b => a.txn < b.txn) → isTx t ps[i] = true → ps.eraseIdx i = ps.filter fun p => !isTx t p
 | p :: ps,0,t,hi,hs,h => by
  have h0 : p.txn = t := of_decide_eq_true h
  obtain ⟨h1,h2⟩ := List.pairwise_cons.1 hs
  rw [List.eraseIdx_zero,List.tail_cons,List.filter_cons,if_neg (by simp [isTx,h0])]
  exact (List.filter_eq_self.2 (fun x hx => by have := h1 x hx; simp [isTx]; omega)).symm
 | p :: ps,i + 1,t,hi,hs,h => by
  obtain ⟨h1,h2⟩ := List.pairwise_cons.1 hs
  have hi' : i < ps.length := by simpa using hi
  have h' : isTx t ps[i] = true := by simpa using h
  have h3 := h1 ps[i] (List.getElem_mem hi')
  have h4 : ps[i].txn = t := of_decide_eq_true h'
  rw [List.eraseIdx_cons_succ,List.filter_cons,if_pos (by simp [isTx]; omega),erase_tx hi' h2 h']
theorem find_idx {α : Type} {p : α → Bool} {xs : List α} {i : Nat} (hi : i < xs.length) (h1 : p xs[i] = true) (h2 : ∀ x ∈ xs.take i,p x = false) : xs.find? p = some xs[i] := find_hit hi h1 h2
abbrev prpC (b : Nat) (p : Prp) (v1 v2 : Value) : Hp := pt b (.cells [.int .i64 p.txn,.int .i64 p.age,.int .i64 p.snap,.int .i64 p.lo,.int .i64 p.hi,v1,v2].toArray 57 (0,0))
theorem post_more {w0 : World} {X E E' h : Hp} {b : Nat} {s : Shd} {n : Int} (hs : ShAt w0 (X + E + E') b s h) : PostS w0 X b (s,⟨n,[]⟩) (.agg [.int .i64 n,.slice none 0 0].toArray) (X + E + E' + h) :=
 ⟨E + E',h,0,OwR.code _ _,by rw [← hadd_assoc]; exact hs,by simp only [yB,← hadd_assoc]⟩
theorem decide22_spec (w0 : World) (X : Hp) (b : Nat) (s : Shd) (h : Hp) (o : Opn) (e : List Value) (hs : ShAt w0 X b s h) (ho : Rep.rd w0 X o e) (hz : Sized s) (hk : Okay s) (hpw : ∀ p ∈ s.preps,p.writes.length ≤ 1000000 ∧ ∀ w ∈ p.writes,w.data.length ≤ 1000000) :
  Spec Tryz.prog w0 157 [.pointer (some ⟨b,0,none⟩),.agg e.toArray] (X + h) (PostS w0 X b (decideF s o)) := by
 obtain ⟨a1,c1,a2,c2,a3,c3,a4,c4,a5,c5,a6,c6,a7,c7,h1,h2,h3,h4,h5,h6,h7,o1,o2,o3,o4,o5,o6,o7,rfl⟩ := id hs
 obtain ⟨x1,y1,x2,y2,x3,y3,x4,y4,rfl,r1,r2,r3,r4⟩ := id ho
 have z1 := hk.locks.few
 have z1' : s.locks.length ≤ 1000000 := by omega
 have z2 := hz.dead
 have z3 := hz.preps
 have z4 := hz.kept
 have hprep := prepared_spec w0 (X + h4) b (.int .i64 s.lo) (.int .i64 s.hi) (.int .i64 s.epoch) (.slice a1 s.blocks.length c1) (.slice a2 s.kept.length c2) (.slice a3 s.locks.length c3) (.slice a4 s.preps.length c4) (.slice a5 s.dead.length c5) (.slice a6 s.outs.length c6) (.slice a7 s.sess.length c7) s.preps o.txn o4.rd0 (by omega)
 refine zN Tryz.func157 rfl Tryz.ntmps157 Tryz.results157 rfl fun fr => ?_
 repeat (first | refine zF ?_ | refine zB ?_ | refine zE ?_ | refine zK rfl rfl rfl ?_ | refine zZ rfl rfl rfl rfl rfl ?_ | refine L_ld rfl rfl rfl rfl rfl ?_ | refine L_box rfl (c := [_,_,_,_,_,_,_,_,_,_,_,_,_,_,_,_,_]) rfl rfl rfl (fun _ => ?_) | refine L_alloc (c := [_,_]) rfl rfl rfl (fun _ => ?_))
 rename_i b3 b4
 refine zY rfl rfl (zQ rfl rfl rfl) hprep ?_
 rintro _ _ ⟨rfl,rfl⟩
 repeat (first | refine zF ?_ | refine zB ?_ | refine zE ?_ | refine zK rfl rfl rfl ?_)
 rcases idxF_cases (isTx o.txn) s.preps with ⟨hi,hall⟩ | ⟨i,hi,hidx,hpi,hbefore⟩
 ·rw [hi]
  have e1 : isPrep s o.txn = false := List.any_eq_false.2 (fun x hx => by rw [hall x hx]; simp)
  have e2 : decide1 s o = s := by unfold decide1; rw [List.find?_eq_none.2 (fun x hx => by rw [hall x hx]; simp)]
  refine L_no rfl rfl (pv_geq rfl rfl) (by omega) ?_
  repeat (first | refine zF ?_ | refine zB ?_ | refine zE ?_ | refine zK rfl rfl rfl ?_ | refine L_skip rfl rfl ?_ | refine zP ?_ | refine zI rfl ?_)
  refine L_no rfl rfl (pv_geq rfl rfl) (by omega) ?_
  repeat (first | refine zF ?_ | refine zB ?_ | refine zE ?_ | refine zK rfl rfl rfl ?_ | refine zP ?_ | refine zI rfl ?_)
  refine L_no rfl rfl (pv_geq rfl rfl) (by omega) ?_
  repeat (first | refine zK rfl rfl rfl ?_ | refine zZ rfl rfl rfl rfl rfl ?_ | refine L_ld rfl rfl rfl rfl rfl ?_)
  refine yG rfl rfl (pv_eql rfl rfl) (fun n1 => ?_) (fun n1 => ?_)
  ·repeat (first | refine zB ?_ | refine zE ?_ | refine zK rfl rfl rfl ?_ | refine zZ rfl rfl rfl rfl rfl ?_ | refine L_ld rfl rfl rfl rfl rfl ?_ | refine zJ rfl ?_ | refine L_bs (vs := [_]) (cells := [_]) rfl rfl rfl rfl rfl rfl (fun _ => ?_))
   rename_i bt
   refine zY rfl rfl (zQ rfl rfl rfl) (endS_spec w0 X b bt s _ o.txn hs ⟨z1',hk.dead⟩ (by omega)) ?_
   rintro _ _ ⟨E,h2',rfl,hs',rfl⟩
   repeat (first | refine zF ?_ | refine zB ?_ | refine zE ?_)
   refine zY rfl rfl (zQ rfl rfl rfl) (code22_spec w0 0) ?_
   rintro _ _ ⟨rfl,rfl⟩
   repeat (first | refine zE ?_ | refine zM ?_ | refine L_stA rfl (vs := [_,_]) rfl rfl rfl rfl (c' := [_,_]) rfl rfl ?_)
   rw [show decideF s o = (endS s o.txn,⟨0,[]⟩) by unfold decideF; rw [if_pos (.inr n1),e2]]
   exact ⟨[_],X + E + h2',_,⟨⟨_,rfl,zL rfl rfl rfl⟩,trivial⟩,PostS.code (hs'.mono rfl),yK.out⟩
  ·repeat (first | refine zF ?_ | refine zB ?_ | refine zE ?_ | refine zK rfl rfl rfl ?_ | refine zP ?_ | refine zI rfl ?_)
   refine zY rfl rfl (zQ rfl rfl rfl) (code22_spec w0 0) ?_
   rintro _ _ ⟨rfl,rfl⟩
   repeat (first | refine zE ?_ | refine zM ?_ | refine L_stA rfl (vs := [_,_]) rfl rfl rfl rfl (c' := [_,_]) rfl rfl ?_)
   rw [show decideF s o = (s,⟨0,[]⟩) by unfold decideF; rw [if_neg (fun h => h.elim (fun h => by rw [e1] at h; cases h) n1),e2]]
   exact ⟨[_],_,_,⟨⟨_,rfl,zL rfl rfl rfl⟩,trivial⟩,PostS.same hs,yK.out⟩
 ·rw [hidx]
  obtain ⟨es,w1,w2⟩ := id o4
  have hel := w2.length
  have e1 : isPrep s o.txn = true := List.any_eq_true.2 ⟨_,List.getElem_mem hi,hpi⟩
  have herase := erase_tx hi hk.preps hpi
  have hfind := find_idx hi hpi hbefore
  have hpp := hpw _ (List.getElem_mem hi)
  obtain ⟨b2,ob2,hp1,e2,⟨ap,cp,aw,cw,rfl,rp,rw'⟩,hat⟩ := o4.rd0.at hi
  refine L_yes rfl rfl (pv_geq rfl rfl) (by omega) ?_
  repeat (first | refine zK rfl rfl rfl ?_ | refine zZ rfl rfl rfl rfl rfl ?_ | refine L_ld rfl rfl rfl rfl rfl ?_)
  refine yG rfl rfl (pv_eql rfl rfl) (fun n1 => ?_) (fun n1 => ?_)
  ·subst hp1
   have e3 : decide1 s o = unprepS (commitS s s.preps[i]) o.txn := by unfold decide1; rw [hfind]; show unprepS (if o.value = 1 then _ else _) _ = _; rw [if_pos n1]
   repeat (first | refine zF ?_ | refine zR ?_ | refine zB ?_ | refine zE ?_ | refine zK rfl rfl rfl ?_ | refine zZ rfl rfl rfl rfl rfl ?_ | refine L_ld rfl rfl rfl rfl rfl ?_ | refine L_len rfl rfl rfl ?_ | refine zJ rfl ?_ | refine L_idx rfl rfl (by omega) rfl rfl ?_ | refine L_atA rfl (by assumption) rfl rfl rfl rfl ?_ | refine L_stA rfl (vs := [_,_,_,_,_,_,_]) rfl rfl rfl rfl (c' := [_,_,_,_,_,_,_]) rfl rfl ?_ | refine L_alloc (c := [_,_,_,_,_,_,_]) rfl rfl rfl (fun _ => ?_))
   rename_i b6
   generalize hpe : s.preps[i] = p at *
   refine hold_count p.writes.length (fun k g L => ∃ (E R : Hp) (bk : List Blk) (a1' : Option Addr) (c1' : Nat) (h1' : Hp),g = [(0,.pointer (some ⟨b,0,none⟩)),(3,.pointer (some ⟨b3,0,none⟩)),(4,.pointer (some ⟨b4,0,none⟩)),(5,.int .i64 (i : Int)),(6,.pointer (some ⟨b6,0,none⟩)),(31,.slice aw p.writes.length cw),(32,.int .i64 p.writes.length),(33,.int .i64 k)] ∧
     bk = wroteB s.blocks (p.writes.take k) ∧ OwL w0 (X + E) bk (.slice a1' bk.length c1') h1' ∧ L = X + E + (stC b (cellsS s ((.slice a1' bk.length c1')) (.slice a2 s.kept.length c2) (.slice a3 s.locks.length c3) (.slice (some ⟨b2,ob2,none⟩) s.preps.length c4) (.slice a5 s.dead.length c5) (.slice a6 s.outs.length c6) (.slice a7 s.sess.length c7)) + h1' + h2 + h3 + h4 + h5 + h6 + h7) + opC b3 o (.slice x1 o.parts.length y1) (.slice x2 o.reads.length y2) (.slice x3 o.writes.length y3) (.slice x4 o.data.length y4) + resC b4 + prpC b6 p (.slice ap p.parts.length cp) (.slice aw p.writes.length cw) + fr + R) _
    ⟨0,_,s.blocks,a1,c1,h1,rfl,rfl,o1.mono rfl,by simp only [yB]; exact yK.out⟩ (by repeat (first | exact zT _ | refine zO rfl ?_)) ?_
   rintro k g L hkk ⟨E,R,bk,a1',c1',h1',rfl,hbk,ob,rfl⟩
   repeat (first | refine zF ?_ | refine zB ?_)
   refine yG rfl rfl (pv_lss rfl rfl) (fun n2 => ?_) (fun n2 => ?_)
   ·have hx : k < p.writes.length := by omega
    have hsucc := wroteB_succ s.blocks hx
    obtain ⟨bw,ow,rfl,ew,⟨ad,cd,rfl,hdat⟩,hatw⟩ := rw'.at hx
    have hset := set19_spec w0 (X + h4 + E + h1') (.slice a1' bk.length c1') (.slice ad p.writes[k].data.length cd) bk p.writes[k].block p.writes[k].data (ob.rd (L := X + h4 + E + h1') (R := h4) (hf := ⟨by ac_rfl⟩)) (by rw [hbk]; exact wroteB_ok _ hk.blocks) (hdat.mono (show X + h4 + E + h1' = X + h4 + (E + h1') by ac_rfl)) (by have := hpp.2 _ (List.getElem_mem hx); omega)
    repeat (first | refine zF ?_ | refine zR ?_ | refine zB ?_ | refine zE ?_ | refine zP ?_ | refine zJ rfl ?_ | refine L_idx rfl rfl (by omega) rfl rfl ?_ | refine L_atA rfl (by assumption) rfl rfl rfl rfl ?_ | refine L_stA rfl (vs := [_,_]) rfl rfl rfl rfl (c' := [_,_]) rfl rfl ?_ | refine L_alloc (c := [_,_]) rfl rfl rfl (fun _ => ?_))
    rename_i b8
    refine yC [10,14] [0,1,2,3,4,5,6,7,8,9,10,11,12,13,14] (by kernel_rfl) rfl (by kernel_rfl) (by kernel_rfl) ?_
    repeat (first | refine yI rfl rfl rfl rfl rfl ?_ | refine yE rfl rfl rfl rfl (yA rfl rfl rfl) ?_ | refine W_load rfl rfl rfl rfl (yF rfl) (zG rfl (zS rfl)) ?_)
    refine W_call rfl rfl rfl rfl (zQ rfl rfl rfl) hset (Kept.all _) ?_
    rintro vb2 _ ⟨E2,hb2,hob2,rfl⟩
    refine ⟨(by repeat (first | exact trivial | exact zG rfl (zS rfl) | exact zL rfl rfl rfl | exact zX rfl (by assumption) rfl | exact zH rfl (by assumption) rfl | exact zH rfl (by assumption) (by assumption) | refine ⟨?_,?_⟩)),?_⟩
    rw [hbk,← hsucc] at hob2
    obtain ⟨a8,c8,rfl⟩ := hob2.shape
    repeat (first | refine yI rfl rfl rfl rfl rfl ?_ | refine yE rfl rfl rfl rfl (yA rfl rfl rfl) ?_)
    refine W_eff (W' := ?wk1) rfl rfl rfl rfl (ev_store rfl rfl rfl rfl rfl (c' := [_,_,_,_,_,_,_,_,_,_]) rfl) ?wkk1 ?wrest1
    case wkk1 => repeat (first | exact Kept.nil | refine Kept.drop (by kernel_rfl) ?_ | refine Kept.keep ?_)
    rintro _ _ rfl
    refine ⟨(by repeat (first | exact trivial | exact zG rfl (zS rfl) | exact zL rfl rfl rfl | exact zX rfl (by assumption) rfl | exact zH rfl (by assumption) rfl | exact zH rfl (by assumption) (by assumption) | refine ⟨?_,?_⟩)),?_⟩
    repeat (refine yJ ?_)
    repeat (first | refine zB ?_ | refine zE ?_ | refine zK rfl rfl rfl ?_ | refine L_add rfl rfl (by omega) (by omega) rfl rfl ?_)
    exact ⟨hx,_,(by repeat (first | exact zT _ | refine zO rfl ?_)),E + E2,_,_,a8,c8,hb2,rfl,rfl,hob2.mono (show X + (E + E2) = E2 + (X + E) by ac_rfl),yK.out⟩
   ·have hkn : k = p.writes.length := by omega
    subst hkn
    rw [List.take_length] at hbk
    have hbok := wroteB_ok p.writes hk.blocks
    rw [← hbk] at hbok
    have hbs := hbk.symm
    clear hbk
    generalize bk = bs at *
    repeat (first | refine zF ?_ | refine yD ?_ | refine zB ?_ | refine zE ?_ | refine zK rfl rfl rfl ?_ | refine zI rfl ?_ | refine L_ldA rfl (vs := [_,_,_,_,_,_,_]) rfl rfl rfl rfl rfl ?_)
    refine zY rfl rfl (zQ rfl rfl rfl) (mine_spec w0 h3 b (.int .i64 s.lo) (.int .i64 s.hi) (.int .i64 s.epoch) (.slice a1' bs.length c1') (.slice a2 s.kept.length c2) (.slice a3 s.locks.length c3) (.slice (some ⟨b2,ob2,none⟩) s.preps.length c4) (.slice a5 s.dead.length c5) (.slice a6 s.outs.length c6) (.slice a7 s.sess.length c7) s.locks p _ ⟨X + h4,ap,cp,aw,cw,rfl,rp,rw'⟩ o3.rdh (by omega)) ?_
    rintro vm _ ⟨hm,hom,rfl⟩
    have hmem := fun x (h : x ∈ mineF s.locks p) => mine_mem h
    have hml := mineF_len s.locks p
    obtain ⟨am,cm,rfl⟩ := hom.shape
    revert hmem hml hom
    generalize hns : mineF s.locks p = ns
    intro hmem hml hom
    repeat (first | refine zR ?_ | refine zE ?_ | refine zK rfl rfl rfl ?_ | refine L_len rfl rfl rfl ?_)
    refine hold_count ns.length (fun k g L => ∃ (E R : Hp) (kk : List Kpt) (a2' : Option Addr) (c2' : Nat) (h2' : Hp),g = [(0,.pointer (some ⟨b,0,none⟩)),(3,.pointer (some ⟨b3,0,none⟩)),(4,.pointer (some ⟨b4,0,none⟩)),(5,.int .i64 (i : Int)),(6,.pointer (some ⟨b6,0,none⟩)),(54,.slice am ns.length cm),(55,.int .i64 ns.length),(56,.int .i64 k)] ∧
      OwL w0 (X + E) bs (.slice a1' bs.length c1') h1' ∧ kk = keptAll s.kept p.snap bs (ns.take k) ∧ OwL w0 (X + E) kk (.slice a2' kk.length c2') h2' ∧ L = X + E + (stC b (cellsS s (.slice a1' bs.length c1') ((.slice a2' kk.length c2')) (.slice a3 s.locks.length c3) (.slice (some ⟨b2,ob2,none⟩) s.preps.length c4) (.slice a5 s.dead.length c5) (.slice a6 s.outs.length c6) (.slice a7 s.sess.length c7)) + h1' + h2' + h3 + h4 + h5 + h6 + h7) + hm + opC b3 o (.slice x1 o.parts.length y1) (.slice x2 o.reads.length y2) (.slice x3 o.writes.length y3) (.slice x4 o.data.length y4) + resC b4 + prpC b6 p (.slice ap p.parts.length cp) (.slice aw p.writes.length cw) + fr + R) _
     ⟨E,_,s.kept,a2,c2,h2,rfl,ob,rfl,o2.mono rfl,yK.out⟩ (by repeat (first | exact zT _ | refine zO rfl ?_)) ?_
    clear ob R E
    rintro k g L hkk ⟨E,R,kk,a2',c2',h2',rfl,ob,hkk2,ok,rfl⟩
    repeat (first | refine zF ?_ | refine zB ?_)
    refine yG rfl rfl (pv_lss rfl rfl) (fun n3 => ?_) (fun n3 => ?_)
    ·have hx : k < ns.length := by omega
     obtain ⟨n,hn,en,_⟩ := hmem _ (List.getElem_mem hx)
     have hsucc := keptAll_succ s.kept p.snap bs hx
     have hlen := keptAll_len bs p.snap (ns.take k) s.kept
     rw [List.length_take] at hlen
     obtain ⟨bm,om,rfl,em,rfl,hatm⟩ := hom.rdh.at hx
     rw [en] at hsucc hatm
     have hkeep := keep19_spec w0 (X + E + h1' + h2') (.slice a2' kk.length c2') (.slice a1' bs.length c1') kk bs p.snap n hn (ok.rd (L := X + E + h1' + h2') (R := h1') (hf := ⟨by ac_rfl⟩)) (by rw [hkk2]; exact keptAll_ok hbok _ _ hk.kept) (by rw [hkk2]; omega) (ob.rd (L := X + E + h1' + h2') (R := h2') (hf := ⟨rfl⟩)) hbok
     repeat (first | refine zF ?_ | refine zR ?_ | refine zB ?_ | refine zE ?_ | refine zK rfl rfl rfl ?_ | refine zP ?_ | refine zJ rfl ?_ | refine L_idx rfl rfl (by omega) rfl rfl ?_ | refine L_at rfl (by assumption) rfl rfl rfl rfl ?_)
     refine yC [17,21] [0,1,2,3,4,5,6,7,8,9,10,11,12,13,14,15,16,17,18,19,20,21] (by kernel_rfl) rfl (by kernel_rfl) (by kernel_rfl) ?_
     repeat (first | refine yI rfl rfl rfl rfl rfl ?_ | refine yE rfl rfl rfl rfl (yA rfl rfl rfl) ?_ | refine W_load rfl rfl rfl rfl (yF rfl) (zG rfl (zS rfl)) ?_ | refine yE rfl rfl rfl rfl (pv_add rfl rfl (by omega) (by omega)) ?_ | refine yE rfl rfl rfl rfl (pv_build (vs := [_,_]) (cells := [_,_]) rfl rfl) ?_)
     refine W_call rfl rfl rfl rfl (zQ rfl rfl rfl) hkeep (Kept.all _) ?_
     rintro vb2 _ ⟨E2,hb2,hob2,rfl⟩
     refine ⟨(by repeat (first | exact trivial | exact zG rfl (zS rfl) | exact zL rfl rfl rfl | exact zX rfl (by assumption) rfl | exact zH rfl (by assumption) rfl | exact zH rfl (by assumption) (by assumption) | refine ⟨?_,?_⟩)),?_⟩
     rw [hkk2,← hsucc] at hob2
     obtain ⟨a8,c8,rfl⟩ := hob2.shape
     repeat (first | refine yI rfl rfl rfl rfl rfl ?_ | refine yE rfl rfl rfl rfl (yA rfl rfl rfl) ?_)
     refine W_eff (W' := ?wk2) rfl rfl rfl rfl (ev_store rfl rfl rfl rfl rfl (c' := [_,_,_,_,_,_,_,_,_,_]) rfl) ?wkk2 ?wrest2
     case wkk2 => repeat (first | exact Kept.nil | refine Kept.drop (by kernel_rfl) ?_ | refine Kept.keep ?_)
     rintro _ _ rfl
     refine ⟨(by repeat (first | exact trivial | exact zG rfl (zS rfl) | exact zL rfl rfl rfl | exact zX rfl (by assumption) rfl | exact zH rfl (by assumption) rfl | exact zH rfl (by assumption) (by assumption) | refine ⟨?_,?_⟩)),?_⟩
     repeat (refine yJ ?_)
     repeat (first | refine zB ?_ | refine zE ?_ | refine zK rfl rfl rfl ?_ | refine L_add rfl rfl (by omega) (by omega) rfl rfl ?_)
     exact ⟨hx,_,(by repeat (first | exact zT _ | refine zO rfl ?_)),E + E2,_,_,a8,c8,hb2,rfl,ob.mono (show X + (E + E2) = X + E + E2 by ac_rfl),rfl,hob2.mono (show X + (E + E2) = E2 + (X + E) by ac_rfl),yK.out⟩
    ·have hkn : k = ns.length := by omega
     subst hkn
     rw [List.take_length] at hkk2
     have hks := hkk2.symm
     clear hkk2
     generalize kk = ks at *
     repeat (first | refine zF ?_ | refine yD ?_ | refine zB ?_ | refine zE ?_ | refine zK rfl rfl rfl ?_ | refine zI rfl ?_)
     refine L_yes rfl rfl (pv_geq rfl rfl) (by omega) ?_
     repeat (first | refine zB ?_ | refine zE ?_ | refine zK rfl rfl rfl ?_ | refine zZ rfl rfl rfl rfl rfl ?_ | refine L_ld rfl rfl rfl rfl rfl ?_ | refine zJ rfl ?_ | refine L_add rfl rfl (by omega) (by omega) rfl rfl ?_)
     refine zY rfl rfl (zQ rfl rfl rfl) (deleteAtPrp_spec w0 es _ h4 i w1 (by omega) w2.ones (by omega)) ?_
     rintro vp2 h4' hrow
     have o4' : OwL w0 (X + E) (s.preps.filter fun p => !isTx o.txn p) vp2 h4' := by
      have := (⟨_,hrow,w2.eraseIdx i⟩ : OwL w0 X _ vp2 h4')
      rw [herase] at this
      exact OwL.mono rfl this
     obtain ⟨a4',c4',rfl⟩ := o4'.shape
     repeat (first | refine zF ?_ | refine zB ?_ | refine zE ?_ | refine zK rfl rfl rfl ?_ | refine zZ rfl rfl rfl rfl rfl ?_ | refine L_st rfl rfl rfl (c' := [_,_,_,_,_,_,_,_,_,_]) rfl rfl rfl rfl ?_)
     refine L_yes rfl rfl (pv_geq rfl rfl) (by omega) ?_
     repeat (first | refine zB ?_ | refine zE ?_ | refine zK rfl rfl rfl ?_ | refine zZ rfl rfl rfl rfl rfl ?_ | refine L_ld rfl rfl rfl rfl rfl ?_ | refine L_skip rfl rfl ?_ | refine zJ rfl ?_ | refine L_bs (vs := [_]) (cells := [_]) rfl rfl rfl rfl rfl rfl (fun _ => ?_))
     rename_i bt
     have hs2 : ShAt w0 (X + E) b (unprepS { s with blocks := bs,kept := ks } o.txn) (stC b (cellsS s (.slice a1' (bs).length c1') (.slice a2' (ks).length c2') (.slice a3 s.locks.length c3) ((.slice a4' (s.preps.filter fun p => !isTx o.txn p).length c4')) (.slice a5 s.dead.length c5) (.slice a6 s.outs.length c6) (.slice a7 s.sess.length c7)) + h1' + h2' + h3 + h4' + h5 + h6 + h7) :=
      ⟨a1',c1',a2',c2',a3,c3,a4',c4',a5,c5,a6,c6,a7,c7,h1',h2',h3,h4',h5,h6,h7,ob,ok,o3,o4',o5,o6.mono rfl,o7.mono rfl,rfl⟩
     refine zY rfl rfl (zQ rfl rfl rfl) (endS_spec w0 (X + E) b bt _ _ o.txn hs2 ⟨z1',hk.dead⟩ (show s.dead.length ≤ 1000000 by omega)) ?_
     rintro _ _ ⟨E',h2',rfl,hs',rfl⟩
     repeat (first | refine zF ?_ | refine zB ?_ | refine zE ?_)
     refine zY rfl rfl (zQ rfl rfl rfl) (code22_spec w0 0) ?_
     rintro _ _ ⟨rfl,rfl⟩
     repeat (first | refine zE ?_ | refine zM ?_ | refine L_stA rfl (vs := [_,_]) rfl rfl rfl rfl (c' := [_,_]) rfl rfl ?_)
     rw [show decideF s o = (endS (unprepS { s with blocks := bs,kept := ks } o.txn) o.txn,⟨0,[]⟩) by unfold decideF; rw [if_pos (.inl e1),e3]; unfold commitS; rw [hbs,hns,hks]]
     exact ⟨[_],X + E + E' + h2',_,⟨⟨_,rfl,zL rfl rfl rfl⟩,trivial⟩,post_more (hs'.mono rfl),yK.out⟩
  ·repeat (first | refine zF ?_ | refine zB ?_ | refine zE ?_ | refine zK rfl rfl rfl ?_ | refine zP ?_ | refine zI rfl ?_)
   have ob := o1
   have ok := o2
   refine L_yes rfl rfl (pv_geq rfl rfl) (by omega) ?_
   repeat (first | refine zB ?_ | refine zE ?_ | refine zK rfl rfl rfl ?_ | refine zZ rfl rfl rfl rfl rfl ?_ | refine L_ld rfl rfl rfl rfl rfl ?_ | refine zJ rfl ?_ | refine L_add rfl rfl (by omega) (by omega) rfl rfl ?_)
   refine zY rfl rfl (zQ rfl rfl rfl) (deleteAtPrp_spec w0 es _ h4 i w1 (by omega) w2.ones (by omega)) ?_
   rintro vp2 h4' hrow
   have o4' : OwL w0 X (s.preps.filter fun p => !isTx o.txn p) vp2 h4' := by
    have := (⟨_,hrow,w2.eraseIdx i⟩ : OwL w0 X _ vp2 h4')
    rw [herase] at this
    exact this
   obtain ⟨a4',c4',rfl⟩ := o4'.shape
   repeat (first | refine zF ?_ | refine zB ?_ | refine zE ?_ | refine zK rfl rfl rfl ?_ | refine zZ rfl rfl rfl rfl rfl ?_ | refine L_st rfl rfl rfl (c' := [_,_,_,_,_,_,_,_,_,_]) rfl rfl rfl rfl ?_)
   refine L_yes rfl rfl (pv_geq rfl rfl) (by omega) ?_
   repeat (first | refine zB ?_ | refine zE ?_ | refine zK rfl rfl rfl ?_ | refine zZ rfl rfl rfl rfl rfl ?_ | refine L_ld rfl rfl rfl rfl rfl ?_ | refine L_skip rfl rfl ?_ | refine zJ rfl ?_ | refine L_bs (vs := [_]) (cells := [_]) rfl rfl rfl rfl rfl rfl (fun _ => ?_))
   rename_i bt
   have hs2 : ShAt w0 X b (unprepS { s with blocks := s.blocks,kept := s.kept } o.txn) (stC b (cellsS s (.slice a1 (s.blocks).length c1) (.slice a2 (s.kept).length c2) (.slice a3 s.locks.length c3) ((.slice a4' (s.preps.filter fun p => !isTx o.txn p).length c4')) (.slice a5 s.dead.length c5) (.slice a6 s.outs.length c6) (.slice a7 s.sess.length c7)) + h1 + h2 + h3 + h4' + h5 + h6 + h7) :=
    ⟨a1,c1,a2,c2,a3,c3,a4',c4',a5,c5,a6,c6,a7,c7,h1,h2,h3,h4',h5,h6,h7,ob,ok,o3,o4',o5,o6,o7,rfl⟩
   refine zY rfl rfl (zQ rfl rfl rfl) (endS_spec w0 X b bt _ _ o.txn hs2 ⟨z1',hk.dead⟩ (show s.dead.length ≤ 1000000 by omega)) ?_
   rintro _ _ ⟨E',h2',rfl,hs',rfl⟩
   repeat (first | refine zF ?_ | refine zB ?_ | refine zE ?_)
   refine zY rfl rfl (zQ rfl rfl rfl) (code22_spec w0 0) ?_
   rintro _ _ ⟨rfl,rfl⟩
   repeat (first | refine zE ?_ | refine zM ?_ | refine L_stA rfl (vs := [_,_]) rfl rfl rfl rfl (c' := [_,_]) rfl rfl ?_)
   rw [show decideF s o = (endS (unprepS { s with blocks := s.blocks,kept := s.kept } o.txn) o.txn,⟨0,[]⟩) by unfold decideF decide1; rw [if_pos (.inl e1),hfind]; show (endS (unprepS (if o.value = 1 then _ else _) _) _,_) = _; rw [if_neg n1]]
   exact ⟨[_],X + E' + h2',_,⟨⟨_,rfl,zL rfl rfl rfl⟩,trivial⟩,PostS.code (hs'.mono rfl),yK.out⟩
end Sl
end Go.Proofs.YtpkealohodeifaaGreat
namespace Go.Proofs.YtpkealohodeifaaGreat
open Go Go.RowKit
namespace Sl
set_option maxHeartbeats 16000000
set_option maxRecDepth 4000
set_option synthInstance.maxHeartbeats 400000
set_option synthInstance.maxSize 100000
attribute [local irreducible] Hold HoldL HoldW
def mayF (lo hi no : Int) (n : Nat) : Bool := inS lo hi no && (inS 0 64 no && decide ((n : Int) = 4))
theorem mayF_iff {lo hi no : Int} {n : Nat} : mayF lo hi no n = true ↔ inS lo hi no = true ∧ 0 ≤ no ∧ no < 64 ∧ n = 4 := by
 unfold mayF inS
 simp only [Bool.and_eq_true,decide_eq_true_eq]
 omega
theorem may_spec (w0 : World) (lo hi no : Int) (a : Option Addr) (n c : Nat) : Spec Tryz.prog w0 251 [.int .i64 no,.slice a n c,.agg [.int .i64 lo,.int .i64 hi].toArray] 0 (fun r h' => r = .bool (mayF lo hi no n) ∧ 0 = h') := by
 unfold mayF
 refine zN Tryz.func251 rfl Tryz.ntmps251 Tryz.results251 rfl fun fr => ?_
 repeat (first | refine zF ?_ | refine zB ?_ | refine zE ?_ | refine zK rfl rfl rfl ?_ | refine L_ldA rfl (vs := [_,_]) rfl rfl rfl rfl rfl ?_ | refine L_box rfl (c := [_,_]) rfl rfl rfl (fun _ => ?_))
 refine zY rfl rfl (zQ rfl rfl rfl) (inSpan22_spec w0 lo hi no) ?_
 rintro _ _ ⟨rfl,rfl⟩
 cases h1 : inS lo hi no
 ·repeat (first | refine zE ?_ | refine zK rfl rfl rfl ?_ | refine L_skip rfl rfl ?_ | refine zM ?_)
  exact ⟨[_],0,_,⟨rfl,trivial⟩,⟨rfl,rfl⟩,yK.out⟩
 ·repeat (first | refine zK rfl rfl rfl ?_ | refine L_build (vs := [_]) (cells := [_,_]) rfl rfl rfl rfl ?_)
  refine zY rfl rfl (zQ rfl rfl rfl) (inSpan22_spec w0 0 64 no) ?_
  rintro _ _ ⟨rfl,rfl⟩
  cases h2 : inS 0 64 no
  ·repeat (first | refine zE ?_ | refine zK rfl rfl rfl ?_ | refine L_skip rfl rfl ?_ | refine zM ?_)
   exact ⟨[_],0,_,⟨rfl,trivial⟩,⟨rfl,rfl⟩,yK.out⟩
  ·repeat (first | refine zK rfl rfl rfl ?_ | refine L_len rfl rfl rfl ?_)
   refine yH rfl rfl (pv_eql rfl rfl) ?_
   repeat (first | refine zE ?_ | refine zK rfl rfl rfl ?_ | refine zM ?_)
   exact ⟨[_],0,_,⟨rfl,trivial⟩,⟨rfl,rfl⟩,yK.out⟩
def orF (xs : List Int) : Int := match xs.find? (fun x => decide (x ≠ 0)) with | some x => x | none => 0
theorem cmpOr_spec (w0 : World) (X : Hp) (v : Value) (xs : List Int) (hv : RdL w0 X v xs) (hl : xs.length ≤ 1000000000) :
  Spec Tryz.prog w0 253 [v] X (fun r h' => r = .int .i64 (orF xs) ∧ X = h') := by
 obtain ⟨a,c,rfl⟩ := hv.shape
 refine zN Tryz.func253 rfl Tryz.ntmps253 Tryz.results253 rfl fun fr => ?_
 repeat (first | refine zF ?_ | refine zR ?_ | refine zB ?_ | refine zE ?_ | refine zK rfl rfl rfl ?_ | refine L_len rfl rfl rfl ?_)
 refine hold_count xs.length (fun k g L => ∃ (R : Hp),g = [(3,.int .i64 0),(6,.slice a xs.length c),(7,.int .i64 xs.length),(8,.int .i64 k)] ∧ (∀ x ∈ xs.take k,decide (x ≠ 0) = false) ∧ L = X + fr + R) _ ⟨0,rfl,by simp,(yB _).symm⟩ (by repeat (first | exact zT _ | refine zO rfl ?_)) ?_
 rintro k g L hk ⟨R,rfl,hpre,rfl⟩
 repeat (first | refine zF ?_ | refine zB ?_)
 refine yG rfl rfl (pv_lss rfl rfl) (fun h2 => ?_) (fun h2 => ?_)
 ·have hx : k < xs.length := by omega
  obtain ⟨b2,o2,rfl,e,rfl,hat⟩ := hv.at hx
  repeat (first | refine zF ?_ | refine zR ?_ | refine zB ?_ | refine zE ?_ | refine zK rfl rfl rfl ?_ | refine zP ?_ | refine zJ rfl ?_ | refine L_idx rfl rfl (by omega) rfl rfl ?_ | refine L_at rfl (by assumption) rfl rfl rfl rfl ?_)
  refine yG rfl rfl (pv_neq rfl rfl) (fun h3 => ?_) (fun h3 => ?_)
  ·repeat (first | refine zF ?_ | refine zB ?_ | refine zE ?_ | refine zK rfl rfl rfl ?_ | refine zM ?_ | refine zJ rfl ?_)
   exact ⟨[_],X,_,⟨rfl,trivial⟩,⟨by unfold orF; rw [find_hit hx (decide_eq_true h3) hpre]; rfl,rfl⟩,yK.out⟩
  ·repeat (first | refine zB ?_ | refine zE ?_ | refine zK rfl rfl rfl ?_ | refine zP ?_ | refine zI rfl ?_ | refine L_add rfl rfl (by omega) (by omega) rfl rfl ?_)
   exact ⟨hx,_,(by repeat (first | exact zT _ | refine zO rfl ?_)),_,rfl,all_take_succ hx hpre (decide_eq_false h3),yK.out⟩
 ·rw [List.take_of_length_le (by omega)] at hpre
  repeat (first | refine zF ?_ | refine yD ?_ | refine zB ?_ | refine zE ?_ | refine zK rfl rfl rfl ?_ | refine zM ?_ | refine zI rfl ?_)
  exact ⟨[_],X,_,⟨rfl,trivial⟩,⟨by unfold orF; rw [List.find?_eq_none.2 (fun x hx => by rw [hpre x hx]; simp)]; rfl,rfl⟩,yK.out⟩
def ordK (x y : Kpt) : Int := orF [cmpI x.snap y.snap,cmpI x.no y.no]
theorem ordK_neg {x y : Kpt} : ordK x y < 0 ↔ ltK x y := by
 unfold ordK orF ltK ltKey cmpI
 by_cases h1 : x.snap < y.snap
 ·simp [h1]
 ·by_cases h2 : y.snap < x.snap
  ·simp [h1,h2]; omega
  ·have h3 : x.snap = y.snap := by omega
   by_cases h4 : x.no < y.no
   ·simp [h3,h4]
   ·by_cases h5 : y.no < x.no
    ·simp [h3,h4,h5]
    ·simp [h3,h4,h5]
theorem orderKept_spec (w0 : World) (x y : Kpt) (e f : List Value) (Y Z : Hp) (he : Rep.rd w0 Y x e) (hf : Rep.rd w0 Z y f) :
  Spec Tryz.prog w0 219 [.agg e.toArray,.agg f.toArray] 0 (fun r h' => r = .int .i64 (ordK x y) ∧ 0 = h') := by
 obtain ⟨a1,c1,rfl,_⟩ := he
 obtain ⟨a2,c2,rfl,_⟩ := hf
 refine zN Tryz.func219 rfl Tryz.ntmps219 Tryz.results219 rfl fun fr => ?_
 repeat (first | refine zF ?_ | refine zB ?_ | refine zE ?_ | refine zK rfl rfl rfl ?_ | refine L_box rfl (c := [_,_,_]) rfl rfl rfl (fun _ => ?_))
 refine yC [4,9,10,11] [0,1,2,3,5,6,7,8,4,9,10,11,12] (by kernel_rfl) rfl (by kernel_rfl) (by kernel_rfl) ?_
 repeat (first | refine yE rfl rfl rfl rfl (yA rfl rfl rfl) ?_ | refine W_load rfl rfl rfl rfl (yF rfl) (zG rfl (zS rfl)) ?_)
 refine W_call rfl rfl rfl rfl (zQ rfl rfl rfl) (compare_spec w0 x.snap y.snap) (Kept.all _) ?_
 rintro _ _ ⟨rfl,rfl⟩
 refine ⟨(by repeat (first | exact trivial | exact zG rfl (zS rfl) | exact zL rfl rfl rfl | exact zX rfl (by assumption) rfl | exact zH rfl (by assumption) rfl | exact zH rfl (by assumption) (by assumption) | refine ⟨?_,?_⟩)),?_⟩
 skip
 refine W_call rfl rfl rfl rfl (zQ rfl rfl rfl) (compare_spec w0 x.no y.no) (Kept.all _) ?_
 rintro _ _ ⟨rfl,rfl⟩
 refine ⟨(by repeat (first | exact trivial | exact zG rfl (zS rfl) | exact zL rfl rfl rfl | exact zX rfl (by assumption) rfl | exact zH rfl (by assumption) rfl | exact zH rfl (by assumption) (by assumption) | refine ⟨?_,?_⟩)),?_⟩
 skip
 refine W_eff rfl rfl rfl rfl (ev_buildSlice (vs := [_,_]) (cells := [_,_]) rfl rfl rfl rfl) (Kept.all _) ?_
 rintro _ _ ⟨b5,rfl,rfl⟩
 refine ⟨(by repeat (first | exact trivial | exact zG rfl (zS rfl) | exact zL rfl rfl rfl | exact zX rfl (by assumption) rfl | exact zH rfl (by assumption) rfl | exact zH rfl (by assumption) (by assumption) | refine ⟨?_,?_⟩)),?_⟩
 have hor := cmpOr_spec w0 (intsAt b5 [cmpI x.snap y.snap,cmpI x.no y.no]) (.slice (some ⟨b5,0,none⟩) 2 2) [cmpI x.snap y.snap,cmpI x.no y.no] (ints_block (b := b5) [cmpI x.snap y.snap,cmpI x.no y.no] (by simp)) (by simp)
 change Spec _ _ _ _ (pt b5 (.cells [.int .i64 (cmpI x.snap y.snap),.int .i64 (cmpI x.no y.no)].toArray 3 (0,0))) _ at hor
 refine W_call rfl rfl rfl rfl (zQ rfl rfl rfl) hor (Kept.all _) ?_
 rintro _ _ ⟨rfl,rfl⟩
 refine ⟨(by repeat (first | exact trivial | exact zG rfl (zS rfl) | exact zL rfl rfl rfl | exact zX rfl (by assumption) rfl | exact zH rfl (by assumption) rfl | exact zH rfl (by assumption) (by assumption) | refine ⟨?_,?_⟩)),?_⟩
 repeat (first | refine yJ ?_ | refine yI rfl rfl rfl rfl rfl ?_)
 repeat (refine zM ?_)
 exact ⟨[_],0,_,⟨rfl,trivial⟩,⟨rfl,rfl⟩,yK.out⟩
theorem RdL.at2 {α : Type} [ρ : Rep α] {w0 : World} {L : Hp} {ad : Option Addr} {n c : Nat} {xs : List α} (h : RdL w0 L (.slice ad n c) xs) {i j : Nat} (hi : i < xs.length) (hj : j < xs.length) :
  ∃ b o,ad = some ⟨b,o,none⟩ ∧ (∃ e,ρ.rd w0 L xs[i] e ∧ At w0 L b (o + i * ρ.size) e) ∧ ∃ e,ρ.rd w0 L xs[j] e ∧ At w0 L b (o + j * ρ.size) e := by
 obtain ⟨b,o,rfl,e,h1,h2⟩ := h.at hi
 obtain ⟨b',o',he,e',h3,h4⟩ := h.at hj
 obtain ⟨rfl,rfl⟩ : b = b' ∧ o = o' := by simpa using he
 exact ⟨b,o,rfl,⟨e,h1,h2⟩,e',h3,h4⟩
section
variable {α : Type} {r : α → α → Prop}
theorem pw_take (tr : ∀ a b c,r a b → r b c → r a c) {l : List α} {k : Nat} (hk : k < l.length) (h : (l.take k).Pairwise r) (h2 : ∀ h : 0 < k,r (l[k - 1]'(by omega)) l[k]) : (l.take (k + 1)).Pairwise r := by
 rw [List.take_succ_eq_append_getElem hk,List.pairwise_append]
 refine ⟨h,List.pairwise_singleton _ _,?_⟩
 intro x hx y hy
 rw [List.mem_singleton] at hy; subst hy
 obtain ⟨i,hi,rfl⟩ := List.getElem_of_mem hx
 rw [List.length_take] at hi
 rw [List.getElem_take]
 rcases Nat.lt_or_ge i (k - 1) with h3 | h3
 ·have := (List.pairwise_iff_getElem.1 h) i (k - 1) (by rw [List.length_take]; omega) (by rw [List.length_take]; omega) h3
  rw [List.getElem_take,List.getElem_take] at this
  exact tr _ _ _ this (h2 (by omega))
 ·have e : i = k - 1 := by omega
  subst e
  exact h2 (by omega)
theorem pw_not {l : List α} {k : Nat} (hk : k < l.length) (h0 : 0 < k) (h : ¬ r (l[k - 1]'(by omega)) l[k]) : ¬ l.Pairwise r := fun hp => h ((List.pairwise_iff_getElem.1 hp) (k - 1) k (by omega) hk (by omega))
end
def okB1 (lo hi : Int) (x : Blk) : Prop := inS lo hi x.no = true ∧ 0 ≤ x.no ∧ x.no < 64 ∧ x.data.length = 4 ∧ x.data ≠ zeros4
instance (lo hi : Int) (x : Blk) : Decidable (okB1 lo hi x) := by unfold okB1; infer_instance
def okK1 (lo hi : Int) (x : Kpt) : Prop := inS lo hi x.no = true ∧ 0 ≤ x.no ∧ x.no < 64 ∧ x.data.length = 4
instance (lo hi : Int) (x : Kpt) : Decidable (okK1 lo hi x) := by unfold okK1; infer_instance
theorem partOk_iff {lo hi : Int} {l : List Blk} {k : List Kpt} : PartOk lo hi l k ↔ ((∀ x ∈ l,okB1 lo hi x) ∧ l.Pairwise fun a b => a.no < b.no) ∧ ((∀ x ∈ k,okK1 lo hi x) ∧ k.Pairwise ltK) := by
 unfold PartOk OkB OkK
 constructor
 ·rintro ⟨⟨h1,h2⟩,h3,⟨h4,h5⟩,h6⟩
  exact ⟨⟨fun x hx => ⟨h3 x hx,h1 x hx⟩,h2⟩,fun x hx => ⟨(h6 x hx).2,(h6 x hx).1.1,(h6 x hx).1.2,h4 x hx⟩,h5⟩
 ·rintro ⟨⟨h1,h2⟩,h3,h4⟩
  exact ⟨⟨fun x hx => (h1 x hx).2,h2⟩,fun x hx => (h1 x hx).1,⟨fun x hx => (h3 x hx).2.2.2,h4⟩,fun x hx => ⟨⟨(h3 x hx).2.1,(h3 x hx).2.2.1⟩,(h3 x hx).1⟩⟩
theorem setB_nil {no : Int} {b : List Bt} (h0 : 0 ≤ no) (h1 : no < 64) (hl : b.length = 4) : ((setB [] no b).length : Int) = 0 ↔ b = zeros4 := by
 unfold setB newB
 rw [if_pos ⟨h0,h1,hl⟩]
 by_cases h : b = zeros4 <;> simp [h]
theorem okB_nil : OkB [] := ⟨by simp,by simp⟩
def badB (lo hi : Int) (l : List Blk) (k : Nat) (hk : k < l.length) : Prop := ¬ (okB1 lo hi l[k] ∧ ∀ h : 0 < k,(l[k - 1]'(by omega)).no < l[k].no)
instance (lo hi : Int) (l : List Blk) (k : Nat) (hk : k < l.length) : Decidable (badB lo hi l k hk) := by unfold badB; infer_instance
def badK (lo hi : Int) (l : List Kpt) (k : Nat) (hk : k < l.length) : Prop := ¬ (okK1 lo hi l[k] ∧ ∀ h : 0 < k,ltK (l[k - 1]'(by omega)) l[k])
instance (lo hi : Int) (l : List Kpt) (k : Nat) (hk : k < l.length) : Decidable (badK lo hi l k hk) := by unfold badK; infer_instance
theorem listV_num {α : Type} (one : RS × Bool → α × (RS × Bool)) (least : Nat) (s : RS × Bool) : (listV one least s).1.length ≤ s.1.left.length := by
 unfold listV
 split
 ·rename_i h
  rw [manyS_length]
  have h1 := takeS_len s.1 8
  have h2 : (intS s.1).left.length / least ≤ (intS s.1).left.length := Nat.div_le_self _ _
  have h3 : (intS s.1).left.length ≤ s.1.left.length := h1
  omega
 ·simp
theorem partOf_spec (w0 : World) (X : Hp) (v : Value) (d : List Bt) (lo hi : Int) (hv : RdL w0 X v d) (hl : d.length ≤ 1000000) :
  Spec Tryz.prog w0 216 [v,.agg [.int .i64 lo,.int .i64 hi].toArray] X (fun r h' => (partF d lo hi = none ∧ r = .tuple #[.slice none 0 0,.slice none 0 0,.bool false] ∧ X = h') ∨
   ∃ (l : List Blk) (k : List Kpt) (vl vk : Value) (D h1 h2 : Hp),partF d lo hi = some (l,k) ∧ r = .tuple #[vl,vk,.bool true] ∧ OwL w0 D l vl h1 ∧ OwL w0 D k vk h2 ∧ X + (D + h1 + h2) = h') := by
 have hread := read02_spec w0 X v d hv (by omega)
 have lB : (partB d).2.1.left.length ≤ d.length := listV_len oneBlk_len 16 _
 have lK : (partK d).2.1.left.length ≤ (partB d).2.1.left.length := listV_len oneKpt_len 24 _
 have nB : (partB d).1.length ≤ d.length := listV_num oneBlk 16 _
 have nK : (partK d).1.length ≤ (partB d).2.1.left.length := listV_num oneKpt 24 _
 have hpf : partF d lo hi = if endV (partK d).2.1 = 0 ∧ PartOk lo hi (partB d).1 (partK d).1 then some ((partB d).1,(partK d).1) else none := rfl
 have hodd : (partB d).2.2 = false := listV_odd (f := oneBlk) (fun s => rfl) 16 _
 obtain ⟨a,c,rfl⟩ := hv.shape
 refine zN Tryz.func216 rfl Tryz.ntmps216 Tryz.results216 rfl fun fr => ?_
 repeat (first | refine zF ?_ | refine zB ?_ | refine zE ?_ | refine zK rfl rfl rfl ?_ | refine L_box rfl (c := [_,_]) rfl rfl rfl (fun _ => ?_))
 rename_i b3
 refine zY rfl rfl (zQ rfl rfl rfl) hread ?_
 rintro _ _ ⟨p,D,h0,rfl,hr0,rfl⟩
 repeat (first | refine zF ?_ | refine zB ?_ | refine zE ?_ | refine zK rfl rfl rfl ?_)
 refine zY rfl rfl (zQ rfl rfl rfl) (getBlocks_spec w0 D p (⟨d,false⟩,false) h0 hr0 (by show d.length ≤ _; omega)) ?_
 rintro vb _ ⟨E1,h1,hb,ob,hr1,rfl⟩
 change OwL w0 (D + E1) (partB d).1 vb hb at ob
 change RdrAt w0 D p (partB d).2.1 h1 at hr1
 repeat (refine zK rfl rfl rfl ?_)
 refine zY rfl rfl (zQ rfl rfl rfl) (getKept_spec w0 D p ((partB d).2.1,false) h1 hr1 (by show (partB d).2.1.left.length ≤ _; omega)) ?_
 rintro vk _ ⟨E2,h2,hk,ok,hr2,rfl⟩
 change OwL w0 (D + E2) (partK d).1 vk hk at ok
 change RdrAt w0 D p (partK d).2.1 h2 at hr2
 repeat (first | refine zF ?_ | refine zB ?_ | refine zE ?_ | refine zK rfl rfl rfl ?_)
 refine zY rfl rfl (zQ rfl rfl rfl) (end02_spec w0 D p (partK d).2.1 h2 hr2) ?_
 rintro _ _ ⟨rfl,rfl⟩
 generalize partB d = pB at *
 generalize hpk : partK d = pK at *
 obtain ⟨l,sB⟩ := pB
 obtain ⟨kk,sK⟩ := pK
 simp only at *
 have lenl : l.length ≤ 1000000 := by omega
 have lenk : kk.length ≤ 1000000 := by omega
 obtain ⟨ab,cb,rfl⟩ := ob.shape
 obtain ⟨ak,ck,rfl⟩ := ok.shape
 refine yG rfl rfl (pv_neq rfl rfl) (fun n1 => ?_) (fun n1 => ?_)
 ·repeat (first | refine zF ?_ | refine zB ?_ | refine zE ?_ | refine zK rfl rfl rfl ?_ | refine zM ?_ | refine zJ rfl ?_)
  exact ⟨[_,_,_],X,_,⟨rfl,rfl,rfl,trivial⟩,.inl ⟨by rw [hpf,if_neg (fun h => n1 h.1)],rfl,rfl⟩,yK.out⟩
 ·have n1' : endV sK.1 = 0 := Classical.byContradiction n1
  repeat (first | refine zF ?_ | refine zR ?_ | refine zB ?_ | refine zE ?_ | refine zK rfl rfl rfl ?_ | refine L_len rfl rfl rfl ?_ | refine zP ?_ | refine zI rfl ?_)
  refine hold_count l.length (fun k g L => ∃ (R : Hp),g = [(3,.pointer (some ⟨b3,0,none⟩)),(8,.slice ab l.length cb),(9,.slice ak kk.length ck),(23,.slice ab l.length cb),(24,.int .i64 l.length),(25,.int .i64 k)] ∧ (∀ x ∈ l.take k,okB1 lo hi x) ∧ ((l.take k).Pairwise fun a b => a.no < b.no) ∧
    L = X + D + E1 + hb + E2 + hk + spanC b3 lo hi + fr + R) _ ⟨_,rfl,by simp,by simp,yK.out⟩ (by repeat (first | exact zT _ | refine zO rfl ?_)) ?_
  rintro k g L hkk ⟨R,rfl,g1,g2,rfl⟩
  repeat (first | refine zF ?_ | refine zB ?_)
  refine yG rfl rfl (pv_lss rfl rfl) (fun n2 => ?_) (fun n2 => ?_)
  ·have hx : k < l.length := by omega
   obtain ⟨bw,ow,rfl,⟨ew,⟨ad,cd,rfl,hdat⟩,hat⟩,ew2,⟨ad2,cd2,rfl,_⟩,hat2⟩ := ob.rd0.at2 hx (show k - 1 < l.length by omega)
   repeat (first | refine zF ?_ | refine zR ?_ | refine zB ?_ | refine zE ?_ | refine zK rfl rfl rfl ?_ | refine zP ?_ | refine zJ rfl ?_ | refine L_idx rfl rfl (by omega) rfl rfl ?_ | refine L_atA rfl (by assumption) rfl rfl rfl rfl ?_ | refine L_stA rfl (vs := [_,_]) rfl rfl rfl rfl (c' := [_,_]) rfl rfl ?_ | refine L_alloc (c := [_,_]) rfl rfl rfl (fun _ => ?_))
   rename_i b11
   refine hold_join (fun g' L' => ∃ (R : Hp),Sub g' [(3,.pointer (some ⟨b3,0,none⟩)),(8,.slice (some ⟨bw,ow,none⟩) l.length cb),(9,.slice ak kk.length ck),(23,.slice (some ⟨bw,ow,none⟩) l.length cb),(24,.int .i64 l.length),(25,.int .i64 k),(60,.bool (decide (badB lo hi l k hx)))] ∧
    L' = X + D + E1 + hb + E2 + hk + spanC b3 lo hi + fr + R) ?_ ?_
   ·refine yC [5,27] [0,1,2,3,4,5,6,7,8,9,10,11,12,13,14,15,16,17,18,19,20,21,22,23,24,25,26,27,28,29,30] (by kernel_rfl) rfl (by kernel_rfl) (by kernel_rfl) ?_
    repeat (first | refine yE rfl rfl rfl rfl (yA rfl rfl rfl) ?_ | refine W_load rfl rfl rfl rfl (yF rfl) (zG rfl (zS rfl)) ?_ | refine W_load rfl rfl rfl rfl (yF rfl) (zL (vs := [_,_]) rfl rfl rfl) ?_)
    refine W_call rfl rfl rfl rfl (zQ rfl rfl rfl) (may_spec w0 lo hi l[k].no ad l[k].data.length cd) (Kept.all _) ?_
    rintro _ _ ⟨rfl,rfl⟩
    refine ⟨(by repeat (first | exact trivial | exact zG rfl (zS rfl) | exact zL rfl rfl rfl | exact zX rfl (by assumption) rfl | exact zH rfl (by assumption) rfl | exact zH rfl (by assumption) (by assumption) | refine ⟨?_,?_⟩)),?_⟩
    cases hm : mayF lo hi l[k].no l[k].data.length
    ·repeat (first | refine yJ ?_ | refine yI rfl rfl rfl rfl rfl ?_ | refine W_skip rfl rfl rfl rfl ?_ | refine W_not rfl rfl rfl rfl ?_)
     rw [decide_eq_true (show badB lo hi l k hx from fun h => by rw [mayF_iff.2 ⟨h.1.1,h.1.2.1,h.1.2.2.1,h.1.2.2.2.1⟩] at hm; cases hm)]
     exact ⟨_,(by repeat (first | exact zT _ | refine zO rfl ?_)),yK.out⟩
    ·obtain ⟨m1,m2,m3,m4⟩ := mayF_iff.1 hm
     repeat (refine yI rfl rfl rfl rfl rfl ?_)
     refine W_dec rfl rfl rfl rfl (pv_gtr rfl rfl) (fun n3 => ?_) (fun n3 => ?_)
     ·repeat (first | refine yI rfl rfl rfl rfl rfl ?_ | refine yE rfl rfl rfl rfl (yA rfl rfl rfl) ?_ | refine W_load rfl rfl rfl rfl (yF rfl) (zG rfl (zS rfl)) ?_)
      refine yE rfl rfl rfl rfl (pv_sub rfl rfl (by omega) (by omega)) ?_
      rw [show ((k : Int) - 1) = ((k - 1 : Nat) : Int) by omega]
      repeat (first | refine yE rfl rfl rfl rfl (yA rfl rfl rfl) ?_ | refine W_idx rfl rfl rfl (by omega) rfl rfl rfl ?_ | refine W_atf rfl rfl (by assumption) rfl rfl rfl rfl rfl ?_)
      refine W_dec rfl rfl rfl rfl (pv_leq rfl rfl) (fun n4 => ?_) (fun n4 => ?_)
      ·repeat (first | refine yJ ?_ | refine yI rfl rfl rfl rfl rfl ?_ | refine W_skip rfl rfl rfl rfl ?_ | refine W_not rfl rfl rfl rfl ?_)
       rw [decide_eq_true (show badB lo hi l k hx from fun h => by have := h.2 (by omega); omega)]
       exact ⟨_,(by repeat (first | exact zT _ | refine zO rfl ?_)),yK.out⟩
      ·repeat (first | refine yI rfl rfl rfl rfl rfl ?_ | refine yE rfl rfl rfl rfl (yA rfl rfl rfl) ?_ | refine W_load rfl rfl rfl rfl (yF rfl) (zG rfl (zS rfl)) ?_)
       refine W_call rfl rfl rfl rfl (zQ rfl rfl rfl) (set19_spec w0 (D + E1 + hb) (.slice none 0 0) (.slice ad l[k].data.length cd) [] l[k].no l[k].data (RdL.nil _ _ _) okB_nil hdat (by omega)) (Kept.all _) ?_
       rintro vs _ ⟨E5,h5,o5,rfl⟩
       obtain ⟨a5,c5,rfl⟩ := o5.shape
       refine ⟨(by repeat (first | exact trivial | exact zG rfl (zS rfl) | exact zL rfl rfl rfl | exact zX rfl (by assumption) rfl | exact zH rfl (by assumption) rfl | exact zH rfl (by assumption) (by assumption) | refine ⟨?_,?_⟩)),?_⟩
       repeat (refine yE rfl rfl rfl rfl (pv_len rfl) ?_)
       refine W_dec rfl rfl rfl rfl (pv_eql rfl rfl) (fun n5 => ?_) (fun n5 => ?_)
       ·repeat (first | refine yJ ?_ | refine yI rfl rfl rfl rfl rfl ?_)
        rw [decide_eq_true (show badB lo hi l k hx from fun h => h.1.2.2.2.2 ((setB_nil m2 m3 m4).1 n5))]
        exact ⟨_,(by repeat (first | exact zT _ | refine zO rfl ?_)),yK.out⟩
       ·have hne : l[k].data ≠ zeros4 := fun h => n5 ((setB_nil m2 m3 m4).2 h)
        repeat (first | refine yJ ?_ | refine yI rfl rfl rfl rfl rfl ?_)
        rw [decide_eq_false (show ¬ badB lo hi l k hx by exact fun h => h ⟨⟨m1,m2,m3,m4,hne⟩,fun _ => by omega⟩)]
        exact ⟨_,(by repeat (first | exact zT _ | refine zO rfl ?_)),yK.out⟩
     ·repeat (first | refine yI rfl rfl rfl rfl rfl ?_ | refine yE rfl rfl rfl rfl (yA rfl rfl rfl) ?_ | refine W_load rfl rfl rfl rfl (yF rfl) (zG rfl (zS rfl)) ?_ | refine W_skip rfl rfl rfl rfl ?_)
      refine W_call rfl rfl rfl rfl (zQ rfl rfl rfl) (set19_spec w0 (D + E1 + hb) (.slice none 0 0) (.slice ad l[k].data.length cd) [] l[k].no l[k].data (RdL.nil _ _ _) okB_nil hdat (by omega)) (Kept.all _) ?_
      rintro vs _ ⟨E5,h5,o5,rfl⟩
      obtain ⟨a5,c5,rfl⟩ := o5.shape
      refine ⟨(by repeat (first | exact trivial | exact zG rfl (zS rfl) | exact zL rfl rfl rfl | exact zX rfl (by assumption) rfl | exact zH rfl (by assumption) rfl | exact zH rfl (by assumption) (by assumption) | refine ⟨?_,?_⟩)),?_⟩
      repeat (refine yE rfl rfl rfl rfl (pv_len rfl) ?_)
      refine W_dec rfl rfl rfl rfl (pv_eql rfl rfl) (fun n5 => ?_) (fun n5 => ?_)
      ·repeat (first | refine yJ ?_ | refine yI rfl rfl rfl rfl rfl ?_)
       rw [decide_eq_true (show badB lo hi l k hx from fun h => h.1.2.2.2.2 ((setB_nil m2 m3 m4).1 n5))]
       exact ⟨_,(by repeat (first | exact zT _ | refine zO rfl ?_)),yK.out⟩
      ·have hne : l[k].data ≠ zeros4 := fun h => n5 ((setB_nil m2 m3 m4).2 h)
       repeat (first | refine yJ ?_ | refine yI rfl rfl rfl rfl rfl ?_)
       rw [decide_eq_false (show ¬ badB lo hi l k hx by exact fun h => h ⟨⟨m1,m2,m3,m4,hne⟩,fun h => by omega⟩)]
       exact ⟨_,(by repeat (first | exact zT _ | refine zO rfl ?_)),yK.out⟩
   ·rintro g' _ ⟨R,hsub,rfl⟩
    refine hold_env hsub ?_
    clear hsub g'
    refine hold_cond_d rfl (fun n3 => ?_) (fun n3 => ?_)
    ·repeat (first | refine zF ?_ | refine zB ?_ | refine zE ?_ | refine zK rfl rfl rfl ?_ | refine zM ?_)
     refine ⟨[_,_,_],X,_,⟨rfl,rfl,rfl,trivial⟩,.inl ⟨?_,rfl,rfl⟩,yK.out⟩
     rw [hpf,if_neg]
     rintro ⟨_,hpo⟩
     obtain ⟨⟨p1,p2⟩,_⟩ := partOk_iff.1 hpo
     refine n3 ⟨p1 _ (List.getElem_mem hx),fun h0 => Classical.byContradiction fun hc => pw_not hx h0 hc p2⟩
    ·obtain ⟨q1,q2⟩ := Classical.byContradiction n3
     repeat (first | refine zB ?_ | refine zE ?_ | refine zK rfl rfl rfl ?_ | refine zP ?_ | refine L_add rfl rfl (by omega) (by omega) rfl rfl ?_)
     refine ⟨hx,_,(by repeat (first | exact zT _ | refine zO rfl ?_)),_,rfl,?_,pw_take (r := fun a b : Blk => a.no < b.no) (fun a b c h h' => Int.lt_trans h h') hx g2 q2,yK.out⟩
     exact all_take_succ' hx g1 q1
  ·rw [List.take_of_length_le (by omega)] at g1 g2
   clear hkk n2
   repeat (first | refine zF ?_ | refine zR ?_ | refine yD ?_ | refine zB ?_ | refine zE ?_ | refine zK rfl rfl rfl ?_ | refine L_len rfl rfl rfl ?_ | refine zI rfl ?_)
   refine hold_count kk.length (fun k g L => ∃ (R : Hp),g = [(3,.pointer (some ⟨b3,0,none⟩)),(8,.slice ab l.length cb),(9,.slice ak kk.length ck),(62,.slice ak kk.length ck),(63,.int .i64 kk.length),(64,.int .i64 k)] ∧ (∀ x ∈ kk.take k,okK1 lo hi x) ∧ (kk.take k).Pairwise ltK ∧
     L = X + D + E1 + hb + E2 + hk + spanC b3 lo hi + fr + R) _ ⟨_,rfl,by simp,by simp,yK.out⟩ (by repeat (first | exact zT _ | refine zO rfl ?_)) ?_
   clear R k
   rintro k g L hkk ⟨R,rfl,g3,g4,rfl⟩
   repeat (first | refine zF ?_ | refine zB ?_)
   refine yG rfl rfl (pv_lss rfl rfl) (fun n2 => ?_) (fun n2 => ?_)
   ·have hx : k < kk.length := by omega
    obtain ⟨bw,ow,rfl,⟨ew,hrw,hat⟩,ew2,hrw2,hat2⟩ := ok.rd0.at2 hx (show k - 1 < kk.length by omega)
    obtain ⟨ad,cd,rfl,hdat⟩ := id hrw
    obtain ⟨ad2,cd2,rfl,_⟩ := id hrw2
    repeat (first | refine zF ?_ | refine zR ?_ | refine zB ?_ | refine zE ?_ | refine zK rfl rfl rfl ?_ | refine zP ?_ | refine zJ rfl ?_ | refine L_idx rfl rfl (by omega) rfl rfl ?_ | refine L_atA rfl (by assumption) rfl rfl rfl rfl ?_ | refine L_stA rfl (vs := [_,_,_]) rfl rfl rfl rfl (c' := [_,_,_]) rfl rfl ?_ | refine L_alloc (c := [_,_,_]) rfl rfl rfl (fun _ => ?_))
    rename_i b13
    refine hold_join (fun g' L' => ∃ (R : Hp),Sub g' [(3,.pointer (some ⟨b3,0,none⟩)),(8,.slice ab l.length cb),(9,.slice (some ⟨bw,ow,none⟩) kk.length ck),(62,.slice (some ⟨bw,ow,none⟩) kk.length ck),(63,.int .i64 kk.length),(64,.int .i64 k),(89,.bool (decide (badK lo hi kk k hx)))] ∧
     L' = X + D + E1 + hb + E2 + hk + spanC b3 lo hi + fr + R) ?_ ?_
    ·refine yC [5,17] [0,1,2,3,4,5,6,7,8,9,10,11,12,13,14,15,16,17,18,19,20] (by kernel_rfl) rfl (by kernel_rfl) (by kernel_rfl) ?_
     repeat (first | refine yE rfl rfl rfl rfl (yA rfl rfl rfl) ?_ | refine W_load rfl rfl rfl rfl (yF rfl) (zG rfl (zS rfl)) ?_ | refine W_load rfl rfl rfl rfl (yF rfl) (zL (vs := [_,_]) rfl rfl rfl) ?_)
     refine W_call rfl rfl rfl rfl (zQ rfl rfl rfl) (may_spec w0 lo hi kk[k].no ad kk[k].data.length cd) (Kept.all _) ?_
     rintro _ _ ⟨rfl,rfl⟩
     refine ⟨(by repeat (first | exact trivial | exact zG rfl (zS rfl) | exact zL rfl rfl rfl | exact zX rfl (by assumption) rfl | exact zH rfl (by assumption) rfl | exact zH rfl (by assumption) (by assumption) | refine ⟨?_,?_⟩)),?_⟩
     cases hm : mayF lo hi kk[k].no kk[k].data.length
     ·repeat (first | refine yJ ?_ | refine yI rfl rfl rfl rfl rfl ?_ | refine W_skip rfl rfl rfl rfl ?_ | refine W_not rfl rfl rfl rfl ?_)
      rw [decide_eq_true (show badK lo hi kk k hx from fun h => by rw [mayF_iff.2 h.1] at hm; cases hm)]
      exact ⟨_,(by repeat (first | exact zT _ | refine zO rfl ?_)),yK.out⟩
     ·have hm2 := mayF_iff.1 hm
      repeat (refine yI rfl rfl rfl rfl rfl ?_)
      refine W_dec rfl rfl rfl rfl (pv_gtr rfl rfl) (fun n3 => ?_) (fun n3 => ?_)
      ·repeat (refine yI rfl rfl rfl rfl rfl ?_)
       refine yE rfl rfl rfl rfl (pv_sub rfl rfl (by omega) (by omega)) ?_
       rw [show ((k : Int) - 1) = ((k - 1 : Nat) : Int) by omega]
       repeat (first | refine W_load rfl rfl rfl rfl (yF rfl) (zL (vs := [_,_,_]) rfl rfl rfl) ?_ | refine W_idx rfl rfl rfl (by omega) rfl rfl rfl ?_ | refine W_atA rfl rfl (by assumption) rfl rfl rfl rfl rfl ?_)
       refine W_call rfl rfl rfl rfl (zQ rfl rfl rfl) (orderKept_spec w0 kk[k - 1] kk[k] _ _ _ _ hrw2 hrw) (Kept.all _) ?_
       rintro _ _ ⟨rfl,rfl⟩
       refine ⟨(by repeat (first | exact trivial | exact zG rfl (zS rfl) | exact zL rfl rfl rfl | exact zX rfl (by assumption) rfl | exact zH rfl (by assumption) rfl | exact zH rfl (by assumption) (by assumption) | refine ⟨?_,?_⟩)),?_⟩
       refine W_dec rfl rfl rfl rfl (pv_geq rfl rfl) (fun n4 => ?_) (fun n4 => ?_)
       ·repeat (first | refine yJ ?_ | refine yI rfl rfl rfl rfl rfl ?_)
        rw [decide_eq_true (show badK lo hi kk k hx from fun h => by have := ordK_neg.2 (h.2 (by omega)); omega)]
        exact ⟨_,(by repeat (first | exact zT _ | refine zO rfl ?_)),yK.out⟩
       ·repeat (first | refine yJ ?_ | refine yI rfl rfl rfl rfl rfl ?_)
        rw [decide_eq_false (show ¬ badK lo hi kk k hx from fun h => h ⟨hm2,fun _ => ordK_neg.1 (by omega)⟩)]
        exact ⟨_,(by repeat (first | exact zT _ | refine zO rfl ?_)),yK.out⟩
      ·repeat (first | refine yJ ?_ | refine yI rfl rfl rfl rfl rfl ?_ | refine W_skip rfl rfl rfl rfl ?_ | refine W_not rfl rfl rfl rfl ?_)
       rw [decide_eq_false (show ¬ badK lo hi kk k hx from fun h => h ⟨hm2,fun h => by omega⟩)]
       exact ⟨_,(by repeat (first | exact zT _ | refine zO rfl ?_)),yK.out⟩
    ·rintro g' _ ⟨R,hsub,rfl⟩
     refine hold_env hsub ?_
     clear hsub g'
     refine hold_cond_d rfl (fun n3 => ?_) (fun n3 => ?_)
     ·repeat (first | refine zF ?_ | refine zB ?_ | refine zE ?_ | refine zK rfl rfl rfl ?_ | refine zM ?_)
      refine ⟨[_,_,_],X,_,⟨rfl,rfl,rfl,trivial⟩,.inl ⟨?_,rfl,rfl⟩,yK.out⟩
      rw [hpf,if_neg]
      rintro ⟨_,hpo⟩
      obtain ⟨_,p1,p2⟩ := partOk_iff.1 hpo
      refine n3 ⟨p1 _ (List.getElem_mem hx),fun h0 => Classical.byContradiction fun hc => pw_not hx h0 hc p2⟩
     ·obtain ⟨q1,q2⟩ := Classical.byContradiction n3
      repeat (first | refine zB ?_ | refine zE ?_ | refine zK rfl rfl rfl ?_ | refine zP ?_ | refine L_add rfl rfl (by omega) (by omega) rfl rfl ?_)
      refine ⟨hx,_,(by repeat (first | exact zT _ | refine zO rfl ?_)),_,rfl,?_,pw_take (r := ltK) (fun a b c h h' => ltKey_trans h h') hx g4 q2,yK.out⟩
      exact all_take_succ' hx g3 q1
   ·rw [List.take_of_length_le (by omega)] at g3 g4
    repeat (first | refine zF ?_ | refine yD ?_ | refine zB ?_ | refine zE ?_ | refine zK rfl rfl rfl ?_ | refine zM ?_ | refine zI rfl ?_)
    exact ⟨[_,_,_],X + (D + E1 + E2 + hb + hk),_,⟨rfl,rfl,rfl,trivial⟩,.inr ⟨l,kk,_,_,D + E1 + E2,hb,hk,by rw [hpf,if_pos ⟨n1',partOk_iff.2 ⟨⟨g1,g2⟩,g3,g4⟩⟩],rfl,ob.mono rfl,ok.mono (show D + E1 + E2 = D + E2 + E1 by ac_rfl),rfl⟩,yK.out⟩
end Sl
end Go.Proofs.YtpkealohodeifaaGreat
namespace Go.Proofs.YtpkealohodeifaaGreat
open Go Go.RowKit
namespace Sl
set_option maxHeartbeats 16000000
set_option maxRecDepth 4000
set_option synthInstance.maxHeartbeats 400000
set_option synthInstance.maxSize 100000
attribute [local irreducible] Hold HoldL HoldW
section
variable {α : Type} [ρ : Rep α] {w0 : World} {X : Hp}
def AllZ (w0 : World) (X : Hp) (zs : List (α × List Value)) : Prop := ∀ z ∈ zs,ρ.rd w0 X z.1 z.2
abbrev rowsZ (zs : List (α × List Value)) : List (List Value) := zs.map Prod.snd
abbrev ltc (c : α → α → Int) : α × List Value → α × List Value → Prop := fun p q => c p.1 q.1 < 0
theorem AllZ.len {zs : List (α × List Value)} (h : AllZ w0 X zs) : ∀ e ∈ rowsZ zs,e.length = ρ.size := by
 intro e he
 obtain ⟨z,hz,rfl⟩ := List.mem_map.1 he
 exact Rep.len (h z hz)
theorem AllZ.perm {zs zs' : List (α × List Value)} (h : AllZ w0 X zs) (p : zs'.Perm zs) : AllZ w0 X zs' := fun z hz => h z (p.mem_iff.1 hz)
theorem AllZ.set {zs : List (α × List Value)} (h : AllZ w0 X zs) {z : α × List Value} (hz : ρ.rd w0 X z.1 z.2) (i : Nat) : AllZ w0 X (zs.set i z) := by
 intro y hy
 rcases List.mem_or_eq_of_mem_set hy with hy | rfl
 ·exact h y hy
 ·exact hz
theorem allZ_app {l m : List (α × List Value)} : AllZ w0 X (l ++ m) ↔ AllZ w0 X l ∧ AllZ w0 X m :=
 ⟨fun h => ⟨fun z hz => h z (List.mem_append_left _ hz),fun z hz => h z (List.mem_append_right _ hz)⟩,fun ⟨h1,h2⟩ z hz => (List.mem_append.1 hz).elim (h1 z) (h2 z)⟩
theorem allZ_cons {x : α × List Value} {l : List (α × List Value)} : AllZ w0 X (x :: l) ↔ ρ.rd w0 X x.1 x.2 ∧ AllZ w0 X l :=
 ⟨fun h => ⟨h x (List.mem_cons_self ..),fun z hz => h z (List.mem_cons_of_mem _ hz)⟩,fun ⟨h1,h2⟩ z hz => (List.mem_cons.1 hz).elim (fun e => by rw [e]; exact h1) (h2 z)⟩
theorem AllZ.take {l : List (α × List Value)} (h : AllZ w0 X l) (k : Nat) : AllZ w0 X (l.take k) := fun z hz => h z (List.mem_of_mem_take hz)
theorem AllZ.drop {l : List (α × List Value)} (h : AllZ w0 X l) (k : Nat) : AllZ w0 X (l.drop k) := fun z hz => h z (List.mem_of_mem_drop hz)
theorem z_at {zs : List (α × List Value)} (h : AllZ w0 X zs) {b : Nat} {spare : List Value} {E : TypeId} {fz : Nat × Nat} {i : Nat} {z : α × List Value} (hi : zs[i]? = some z) :
  At w0 (pt b (.cells ((rowsZ zs).flatten ++ spare).toArray E fz)) b (0 + i * ρ.size) z.2 := at_row h.len (by simp [rowsZ,hi])
theorem z_set {zs : List (α × List Value)} (h : AllZ w0 X zs) (spare : List Value) {i : Nat} (hi : i < zs.length) {z : α × List Value} (hz : z.2.length = ρ.size) :
  spliceL (0 + i * ρ.size) z.2 ((rowsZ zs).flatten ++ spare) = (rowsZ (zs.set i z)).flatten ++ spare := by
 have e : rowsZ zs = rowsZ (zs.take i) ++ zs[i].2 :: rowsZ (zs.drop (i + 1)) := by
  show zs.map _ = (zs.take i).map _ ++ Prod.snd zs[i] :: (zs.drop (i + 1)).map _
  rw [← List.map_cons (f := Prod.snd),← List.drop_eq_getElem_cons hi,← List.map_append,List.take_append_drop]
 have e2 : rowsZ (zs.set i z) = rowsZ (zs.take i) ++ [z.2] ++ rowsZ (zs.drop (i + 1)) := by
  rw [List.set_eq_take_append_cons_drop,if_pos hi]
  simp [rowsZ]
 have hl : (rowsZ (zs.take i)).length = i := by simp [rowsZ]; omega
 rw [e,e2]
 have hA := h.len
 rw [e] at hA
 have := splice_row (fs := rowsZ (zs.take i)) (rs := rowsZ (zs.drop (i + 1))) (r0 := zs[i].2) (e := z.2) (spare := spare) (size := ρ.size) (fun x hx => hA x (List.mem_append_left _ hx)) (hA _ (List.mem_append_right _ (List.mem_cons_self ..))) hz
 rw [hl] at this
 exact this
theorem z_room {zs : List (α × List Value)} (h : AllZ w0 X zs) (spare : List Value) {i : Nat} (hi : i < zs.length) : 0 + i * ρ.size + ρ.size ≤ ((rowsZ zs).flatten ++ spare).length := by
 rw [List.length_append,length_flat h.len,List.length_map]
 have := Nat.mul_le_mul_right ρ.size (show i + 1 ≤ zs.length by omega)
 rw [Nat.add_mul] at this
 omega
theorem ev_storeZ {P : Program} {L : Hp} {g : Env} {t : TypeId} {sz by' : Nat} {zz : Value} [hi : Inf P t sz by' zz] {x y : Operand} {b : Nat} {spare : List Value} {e : TypeId} {R : Hp} {zs : List (α × List Value)} {i : Nat} {z : α × List Value} (h : AllZ w0 X zs) (hil : i < zs.length) (hz : ρ.rd w0 X z.1 z.2)
  (hx : ev g x = some (.pointer (some ⟨b,0 + i * ρ.size,none⟩))) (hy : ev g y = some (.agg z.2.toArray)) (hsz : (ρ.size == sz) = true) [hb : HasPt b L (.cells ((rowsZ zs).flatten ++ spare).toArray e (0,0)) R] :
  EV P w0 L g (.store t x y) fun _ L' => L' = pt b (.cells ((rowsZ (zs.set i z)).flatten ++ spare).toArray e (0,0)) + R := by
 have hs : ρ.size = sz := by simpa using hsz
 refine ev_storeA (c := (rowsZ zs).flatten ++ spare) hx hy (by rw [Rep.len hz]; exact hsz) (List.all_eq_true.2 (Rep.one hz)) (by rw [Rep.len hz]; exact z_room h spare hil) (z_set h spare hil (Rep.len hz))
theorem z_len {z : α × List Value} (hz : ρ.rd w0 X z.1 z.2) {sz : Nat} (hs : (ρ.size == sz) = true) : (z.2.length == sz) = true := by rw [Rep.len hz]; exact hs
end
section
variable {β : Type}
theorem adj_get (P S : List β) (x y : β) : (P ++ x :: y :: S)[P.length]? = some x ∧ (P ++ x :: y :: S)[P.length + 1]? = some y := by
 constructor
 ·simp
 ·rw [List.getElem?_append_right (by omega)]; simp
theorem adj_set (P S : List β) (x y : β) : ((P ++ x :: y :: S).set P.length y).set (P.length + 1) x = P ++ y :: x :: S := by
 rw [List.set_append_right _ _ (Nat.le_refl _),List.set_append_right _ _ (by omega)]
 simp
theorem adj_set' (P S : List β) (x y : β) : ((P ++ x :: y :: S).set (P.length + 1) x).set P.length y = P ++ y :: x :: S := by
 rw [List.set_append_right _ _ (by omega),List.set_append_right _ _ (Nat.le_refl _)]
 simp
theorem far_get (P Q S : List β) (x y : β) : (P ++ x :: (Q ++ y :: S))[P.length]? = some x ∧ (P ++ x :: (Q ++ y :: S))[P.length + 1 + Q.length]? = some y := by
 constructor
 ·simp
 ·rw [List.getElem?_append_right (by omega),show P.length + 1 + Q.length - P.length = Q.length + 1 by omega,List.getElem?_cons_succ,List.getElem?_append_right (Nat.le_refl _)]; simp
theorem far_set (P Q S : List β) (x y : β) : ((P ++ x :: (Q ++ y :: S)).set P.length y).set (P.length + 1 + Q.length) x = P ++ y :: (Q ++ x :: S) := by
 rw [List.set_append_right _ _ (Nat.le_refl _),List.set_append_right _ _ (by omega),show P.length + 1 + Q.length - P.length = Q.length + 1 by omega,Nat.sub_self,List.set_cons_zero,List.set_cons_succ,List.set_append_right _ _ (Nat.le_refl _)]
 simp
end
abbrev arrKpt (b : Nat) (zs : List (Kpt × List Value)) (spare : List Value) : Hp := pt b (.cells ((rowsZ zs).flatten ++ spare).toArray 73 (0,0))
theorem swapRangeKpt_spec (w0 : World) (X : Hp) (bl n cap a b m : Nat) (A U M V C : List (Kpt × List Value)) (spare : List Value) (vf : Value) (hz : AllZ w0 X (A ++ (U ++ (M ++ (V ++ C))))) (hUV : V.length = U.length) (ha : a = A.length) (hb : b = A.length + U.length + M.length) (hm : m = U.length)
  (hn : n = A.length + U.length + M.length + V.length + C.length) (hmax : n ≤ 1000000000) :
  Spec Tryz.prog w0 306 [.slice (some ⟨bl,0,none⟩) n cap,.int .i64 (a : Int),.int .i64 (b : Int),.int .i64 (m : Int),vf] (arrKpt bl (A ++ (U ++ (M ++ (V ++ C)))) spare) (fun r h' => r = .tuple #[] ∧ arrKpt bl (A ++ (V ++ (M ++ (U ++ C)))) spare = h') := by
 refine zN Tryz.func306 rfl Tryz.ntmps306 Tryz.results306 rfl fun fr => ?_
 repeat (first | refine zF ?_ | refine zR ?_ | refine zB ?_ | refine zE ?_ | refine zK rfl rfl rfl ?_)
 refine hold_count U.length (fun k g L => ∃ (R : Hp),g = [(0,.slice (some ⟨bl,0,none⟩) n cap),(1,.int .i64 (a : Int)),(2,.int .i64 (b : Int)),(3,.int .i64 (m : Int)),(10,.int .i64 (k : Int))] ∧
   L = arrKpt bl (A ++ ((V.take k ++ U.drop k) ++ (M ++ ((U.take k ++ V.drop k) ++ C)))) spare + fr + R) _ ⟨0,rfl,by simp only [List.take_zero,List.drop_zero,List.nil_append,yB]⟩ (by repeat (first | exact zT _ | refine zO rfl ?_)) ?_
 rintro k g L hk ⟨R,rfl,rfl⟩
 repeat (first | refine zF ?_ | refine zB ?_ | refine zK rfl rfl rfl ?_)
 refine yG rfl rfl (pv_lss rfl rfl) (fun n1 => ?_) (fun n1 => ?_)
 ·have hx : k < U.length := by omega
  have hy : k < V.length := by omega
  have e1 : A ++ ((V.take k ++ U.drop k) ++ (M ++ ((U.take k ++ V.drop k) ++ C))) = (A ++ V.take k) ++ U[k] :: ((U.drop (k + 1) ++ (M ++ U.take k)) ++ V[k] :: (V.drop (k + 1) ++ C)) := by
   rw [List.drop_eq_getElem_cons hx,List.drop_eq_getElem_cons hy]; simp only [List.append_assoc,List.cons_append]
  have e2 : A ++ ((V.take (k + 1) ++ U.drop (k + 1)) ++ (M ++ ((U.take (k + 1) ++ V.drop (k + 1)) ++ C))) = (A ++ V.take k) ++ V[k] :: ((U.drop (k + 1) ++ (M ++ U.take k)) ++ U[k] :: (V.drop (k + 1) ++ C)) := by
   rw [List.take_succ_eq_append_getElem hx,List.take_succ_eq_append_getElem hy]; simp only [List.append_assoc,List.cons_append,List.nil_append]
  have hl1 : (A ++ V.take k).length = a + k := by rw [List.length_append,List.length_take]; omega
  have hl2 : (A ++ V.take k).length + 1 + (U.drop (k + 1) ++ (M ++ U.take k)).length = b + k := by simp only [List.length_append,List.length_take,List.length_drop]; omega
  have hz2 : AllZ w0 X ((A ++ V.take k) ++ U[k] :: ((U.drop (k + 1) ++ (M ++ U.take k)) ++ V[k] :: (V.drop (k + 1) ++ C))) := by
   intro z hz'
   apply hz
   rw [← e1] at hz'
   simp only [List.mem_append] at hz' ⊢
   rcases hz' with h | (h | h) | h | (h | h) | h
   ·exact .inl h
   ·exact .inr (.inr (.inr (.inl (List.mem_of_mem_take h))))
   ·exact .inr (.inl (List.mem_of_mem_drop h))
   ·exact .inr (.inr (.inl h))
   ·exact .inr (.inl (List.mem_of_mem_take h))
   ·exact .inr (.inr (.inr (.inl (List.mem_of_mem_drop h))))
   ·exact .inr (.inr (.inr (.inr h)))
  have hlen : ((A ++ V.take k) ++ U[k] :: ((U.drop (k + 1) ++ (M ++ U.take k)) ++ V[k] :: (V.drop (k + 1) ++ C))).length = n := by
   simp only [List.length_append,List.length_cons,List.length_take,List.length_drop]; omega
  rw [e1]
  generalize hU : U[k] = x at *
  generalize hV : V[k] = y at *
  generalize hP : A ++ V.take k = P at *
  generalize hQ : U.drop (k + 1) ++ (M ++ U.take k) = Q at *
  generalize hS : V.drop (k + 1) ++ C = S at *
  obtain ⟨g1,g2⟩ := far_get P Q S x y
  have gs := far_set P Q S x y
  rw [hl2] at g2 gs
  rw [hl1] at g1 gs
  have hrx : Rep.rd w0 X x.1 x.2 := hz2 x (by simp)
  have hry : Rep.rd w0 X y.1 y.2 := hz2 y (by simp)
  have hat1 := z_at hz2 (b := bl) (spare := spare) (E := 73) (fz := (0,0)) g1
  have hat2 := z_at hz2 (b := bl) (spare := spare) (E := 73) (fz := (0,0)) g2
  have hq1 := z_len hrx (sz := Rep.size Kpt) (by simp)
  have hq2 := z_len hry (sz := Rep.size Kpt) (by simp)
  repeat (first | refine zF ?_ | refine zR ?_ | refine zE ?_ | refine zP ?_ | refine zJ rfl ?_)
  refine yC [21,23] [0,1,2,3,4,5,6,7,8,9,10,11,12,13,14,15,16,17,18,19,20,21,22,23] (by kernel_rfl) rfl (by kernel_rfl) (by kernel_rfl) ?_
  repeat (first | refine yI rfl rfl rfl rfl rfl ?_ | refine yE rfl rfl rfl rfl (pv_add rfl rfl (by omega) (by omega)) ?_ | refine W_idx rfl rfl rfl (by omega) rfl rfl rfl ?_)
  rw [show ((a : Int) + (k : Int)) = ((a + k : Nat) : Int) by omega,show ((b : Int) + (k : Int)) = ((b + k : Nat) : Int) by omega]
  skip
  refine W_atA rfl rfl hat2 hq2 rfl rfl rfl rfl ?_
  repeat (first | refine yI rfl rfl rfl rfl rfl ?_ | refine yE rfl rfl rfl rfl (pv_add rfl rfl (by omega) (by omega)) ?_ | refine W_idx rfl rfl rfl (by omega) rfl rfl rfl ?_)
  refine W_atA rfl rfl hat1 hq1 rfl rfl rfl rfl ?_
  repeat (refine W_idx rfl rfl rfl (by omega) rfl rfl rfl ?_)
  refine W_eff (W' := ?wk1) rfl rfl rfl rfl (ev_storeZ hz2 (by omega) hry rfl rfl rfl) ?wkk1 ?wrest1
  case wkk1 => repeat (first | exact Kept.nil | refine Kept.drop (by kernel_rfl) ?_ | refine Kept.keep ?_)
  rintro _ _ rfl
  refine ⟨(by repeat (first | exact trivial | exact zG rfl (zS rfl) | exact zL rfl rfl rfl | exact zX rfl (by assumption) rfl | exact zH rfl (by assumption) rfl | exact zH rfl (by assumption) (by assumption) | refine ⟨?_,?_⟩)),?_⟩
  repeat (refine W_idx rfl rfl rfl (by omega) rfl rfl rfl ?_)
  refine W_eff (W' := ?wk2) rfl rfl rfl rfl (ev_storeZ (hz2.set hry _) (by rw [List.length_set]; omega) hrx rfl rfl rfl) ?wkk2 ?wrest2
  case wkk2 => repeat (first | exact Kept.nil | refine Kept.drop (by kernel_rfl) ?_ | refine Kept.keep ?_)
  rintro _ _ rfl
  refine ⟨(by repeat (first | exact trivial | exact zG rfl (zS rfl) | exact zL rfl rfl rfl | exact zX rfl (by assumption) rfl | exact zH rfl (by assumption) rfl | exact zH rfl (by assumption) (by assumption) | refine ⟨?_,?_⟩)),?_⟩
  rw [gs]
  repeat (refine yJ ?_)
  repeat (first | refine zB ?_ | refine zE ?_ | refine zK rfl rfl rfl ?_ | refine L_add rfl rfl (by omega) (by omega) rfl rfl ?_)
  rw [← e2]
  exact ⟨hx,_,(by repeat (first | exact zT _ | refine zO rfl ?_)),_,rfl,yK.out⟩
 ·have hkk : k = U.length := by omega
  subst hkk
  rw [List.take_length,List.drop_length,← hUV,List.take_length,List.drop_length,List.append_nil,List.append_nil]
  repeat (first | refine yD ?_ | refine zE ?_ | refine zI rfl ?_)
  exact ⟨[],_,_,trivial,⟨rfl,rfl⟩,yK.out⟩
end Sl
end Go.Proofs.YtpkealohodeifaaGreat
