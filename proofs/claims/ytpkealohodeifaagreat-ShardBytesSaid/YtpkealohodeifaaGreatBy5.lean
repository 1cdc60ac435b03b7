/-
  What shardBytes.proved hangs on, part 5 of 8: ShPe, ShPb, ShPf, ShSq, ShSr, ShSs, ShSt, ShPg, ShIb, ShIc, ShPd.
-/
import Derived.Test.YtpkealohodeifaaGreatBy4
set_option linter.unusedVariables false
set_option linter.unusedSimpArgs false
namespace Go.Proofs.YtpkealohodeifaaGreat
open Go Go.RowKit
namespace Sl
set_option maxHeartbeats 16000000
set_option maxRecDepth 4000
set_option synthInstance.maxHeartbeats 400000
set_option synthInstance.maxSize 100000
attribute [local irreducible] Hold HoldL HoldW
theorem inSpan22_spec (w0:World) (lo hi n:Int):Spec Tryz.prog w0 210 [.int .i64 n,.agg [.int .i64 lo,.int .i64 hi].toArray] 0 (fun r h'=>r=.bool (inS lo hi n)∧0=h'):=by
 refine zN Tryz.func210 G Tryz.ntmps210 Tryz.results210 G fun fr=>?_
 repeat' (first|refine zF ?_|refine zB ?_|refine zE ?_|refine zK G G G ?_|refine zZ G G G G G ?_|refine L_ld G G G G G ?_|refine L_skip G G ?_|refine zM ?_|refine L_box G (c:=[_,_]) G G G (fun _=>?_)|refine yG G G (pv_lss G G) (fun _=>?_) (fun _=>?_)|refine yG G G (pv_geq G G) (fun _=>?_) (fun _=>?_)|exact ⟨[_],0,_,⟨rfl,trivial⟩,⟨by unfold inS; first|exact bool_T (by omega)|exact bool_F (by omega),rfl⟩,yK.out⟩|done)
theorem freeze1_spec (w0:World) (u:Outp) (e:List Value) (Y:Hp) (he:Rep.rd w0 Y u e) (b:Nat) (o:Opn) (v1 v2 v3 v4:Value) :
  Spec Tryz.prog w0 206 [.agg e.toArray,.pointer (some ⟨b,0,none⟩)] (opC b o v1 v2 v3 v4) (fun r h'=>r=.bool (isOut o.epoch u)∧opC b o v1 v2 v3 v4=h'):=by
 obtain ⟨a,c,rfl,_⟩:=he
 refine zN Tryz.func206 G Tryz.ntmps206 Tryz.results206 G fun fr=>?_
 repeat (first|refine zF ?_|refine zB ?_|refine zE ?_|refine zK G G G ?_|refine zZ G G G G G ?_|refine L_ld G G G G G ?_|refine L_box G (c:=[_,_,_,_]) G G G (fun _=>?_))
 refine yH G G (pv_eql G G) ?_
 repeat (first|refine zE ?_|refine zK G G G ?_|refine zM ?_)
 exact ⟨[_],_,_,⟨rfl,trivial⟩,⟨rfl,rfl⟩,yK.out⟩
theorem freeze2_spec (w0:World) (X:Hp) (b c:Nat) (lo hi ep vb vk vl vp vd vo vx:Value) (ps:List Prp) (t:Int) (hp:RdL w0 X vp ps) (hl:ps.length≤1000000000) :
  Spec Tryz.prog w0 208 [.int .i64 t,.pointer (some ⟨c,0,none⟩)] (X+ptrC c b+stC b [lo,hi,ep,vb,vk,vl,vp,vd,vo,vx])
   (fun r h'=>r=.bool (ps.any (isTx t))∧X+ptrC c b+stC b [lo,hi,ep,vb,vk,vl,vp,vd,vo,vx]=h'):=by
 have hprep:=prepared_spec w0 X b lo hi ep vb vk vl vp vd vo vx ps t hp hl
 refine zN Tryz.func208 G Tryz.ntmps208 Tryz.results208 G fun fr=>?_
 repeat (first|refine zF ?_|refine zB ?_|refine zE ?_|refine zK G G G ?_|refine L_ld G G G G G ?_)
 refine zY G G (zQ G G G) hprep ?_
 rintro _ _ ⟨rfl,rfl⟩
 skip
 refine yH G G (pv_geq G G) ?_
 repeat (first|refine zE ?_|refine zK G G G ?_|refine zM ?_)
 exact ⟨[_],_,_,⟨rfl,trivial⟩,⟨by rw [← idxF_nonneg]; rfl,rfl⟩,yK.out⟩
theorem freeze3_spec (w0:World) (k:Kpt) (e:List Value) (Y:Hp) (he:Rep.rd w0 Y k e) (b:Nat) (lo hi:Int) :
  Spec Tryz.prog w0 209 [.agg e.toArray,.pointer (some ⟨b,0,none⟩)] (spanC b lo hi) (fun r h'=>r=.bool (inK lo hi k)∧spanC b lo hi=h'):=by
 obtain ⟨a,c,rfl,_⟩:=he
 refine zN Tryz.func209 G Tryz.ntmps209 Tryz.results209 G fun fr=>?_
 repeat (first|refine zF ?_|refine zB ?_|refine zE ?_|refine zK G G G ?_|refine zZ G G G G G ?_|refine L_ld G G G G G ?_|refine L_ldA G (vs:=[_,_]) G G G G G ?_|refine L_box G (c:=[_,_,_]) G G G (fun _=>?_))
 refine zY G G (zQ G G G) (inSpan22_spec w0 lo hi k.no) ?_
 rintro _ _ ⟨rfl,rfl⟩
 repeat (first|refine zE ?_|refine zK G G G ?_|refine zM ?_)
 exact ⟨[_],_,_,⟨rfl,trivial⟩,⟨rfl,rfl⟩,yK.out⟩
theorem part22_spec (w0:World) (X:Hp) (v u:Value) (l:List Blk) (k:List Kpt) (hv:RdL w0 X v l) (hu:RdL w0 X u k) (hl:(partE l k).length≤90000000000000) :
  Spec Tryz.prog w0 211 [v,u] X (fun r h'=>∃ h,OwL w0 0 (partE l k) r h∧X+h=h'):=by
 have hb:=putBlocks_spec w0 X (.slice none 0 0) v [] l (RdL.nil _ _ _) hv (by unfold partE at hl; rw [List.length_append] at hl; rw [List.nil_append]; omega)
 rw [List.nil_append] at hb
 obtain ⟨a,c,rfl⟩:=hv.shape
 obtain ⟨a2,c2,rfl⟩:=hu.shape
 refine zN Tryz.func211 G Tryz.ntmps211 Tryz.results211 G fun fr=>?_
 repeat (first|refine zF ?_|refine zB ?_|refine zE ?_|refine zK G G G ?_)
 refine zY G G (zQ G G G) hb ?_
 rintro vb _ ⟨h1,o1,rfl⟩
 have hk:=putKept_spec w0 (X+h1) vb (.slice a2 k.length c2) (encL' encBlk l) k (o1.rd (R:=X) (hf:=⟨by rw [hzero_add]; exact hadd_comm _ _⟩)) (hu.mono G) hl
 obtain ⟨a3,c3,rfl⟩:=o1.shape
 repeat (refine zK G G G ?_)
 refine zY G G (zQ G G G) hk ?_
 rintro vk _ ⟨h2,o2,rfl⟩
 repeat (first|refine zE ?_|refine zK G G G ?_|refine zM ?_)
 exact ⟨[_],X+h2,_,⟨rfl,trivial⟩,⟨h2,o2,rfl⟩,yK.out⟩
theorem PostS.data {w0:World} {X h hr:Hp} {b:Nat} {s:Shd} {n:Int} {d:List Bt} {a:Option Addr} {c:Nat} (hs:ShAt w0 X b s h) (hor:OwL w0 0 d (.slice a d.length c) hr):PostS w0 X b (s,⟨n,d⟩) (.agg [.int .i64 n,.slice a d.length c].toArray) (X+h+hr) :=
 ⟨0,h,hr,⟨a,c,rfl,hor⟩,by rw [yB]; exact hs,by simp only [yB]⟩
theorem flat_len {α:Type} (f:α→List Bt) (c:Nat):∀ l:List α,(∀ x∈l,(f x).length=c)→((l.map f).flatten).length=c*l.length
 | [],_=>by simp
 | x::l,h=>by
  rw [List.map_cons,List.flatten_cons,List.length_append,h x (List.mem_cons_self ..),flat_len f c l (fun y hy=>h y (List.mem_cons_of_mem _ hy)),List.length_cons,Nat.mul_succ]; omega
theorem partE_len {l:List Blk} {k:List Kpt} (hb:∀ x∈l,x.data.length=4) (hk:∀ x∈k,x.data.length=4):(partE l k).length=16+20*l.length+28*k.length:=by
 unfold partE
 rw [List.length_append,encL'_length,encL'_length,flat_len encBlk 20 l (fun x hx=>by unfold encBlk; rw [List.length_append,be8_length,blob_length,hb x hx]),flat_len encKpt 28 k (fun x hx=>by unfold encKpt; rw [List.length_append,List.length_append,be8_length,be8_length,blob_length,hk x hx])]
 omega
theorem OkB.four {l:List Blk} (h:OkB l):∀ x∈l,x.data.length=4:=fun x hx=>(h.1 x hx).2.2.1
theorem freeze22_spec (w0:World) (X:Hp) (b:Nat) (s:Shd) (h:Hp) (o:Opn) (e:List Value) (hs:ShAt w0 X b s h) (ho:∃ Y,Rep.rd w0 Y o e) (hz:Sized s) (hk:Okay s) (hod:∀ u∈s.outs,u.data.length≤1000000000) :
  Spec Tryz.prog w0 158 [.pointer (some ⟨b,0,none⟩),.agg e.toArray] (X+h) (PostS w0 X b (freezeF s o)):=by
 obtain ⟨a1,c1,a2,c2,a3,c3,a4,c4,a5,c5,a6,c6,a7,c7,h1,h2,h3,h4,h5,h6,h7,o1,o2,o3,o4,o5,o6,o7,rfl⟩:=id hs
 obtain ⟨Y,x1,y1,x2,y2,x3,y3,x4,y4,rfl,_,_,_,_⟩:=id ho
 have z1:=hk.locks.few
 have z2:=hz.dead
 have z3:=hz.preps
 have z4:=hz.kept
 have z5:=hz.outs
 have z6:=hk.blocks.len
 refine zN Tryz.func158 G Tryz.ntmps158 Tryz.results158 G fun fr=>?_
 repeat (first|refine zF ?_|refine zB ?_|refine zE ?_|refine zK G G G ?_|refine zZ G G G G G ?_|refine L_ld G G G G G ?_|refine L_build (vs:=[_,_]) (cells:=[_,_]) G G G G ?_|refine L_stA G (vs:=[_,_]) G G G G (c':=[_,_]) G G ?_|refine L_box G (c:=[_]) G G G (fun _=>?_)|refine L_box G (c:=[_,_,_,_,_,_,_,_,_,_,_,_,_,_,_,_,_]) G G G (fun _=>?_)|refine L_alloc (c:=[_,_]) G G G (fun _=>?_)|refine L_clo G G G ?_)
 rename_i b2 b3 b4 b5
 refine zY G G (zQ G G G) (indexFuncOut_spec w0 (X+h6+opC b3 o (.slice x1 o.parts.length y1) (.slice x2 o.reads.length y2) (.slice x3 o.writes.length y3) (.slice x4 o.data.length y4)) (.slice a6 s.outs.length c6) s.outs 206 [.pointer (some ⟨b3,0,none⟩)] (isOut o.epoch) (o6.rd0.mono G) (by omega) (fun Y x e hx he=>Spec.frameL (hadd_comm _ _) (freeze1_spec w0 x e Y he b3 o (.slice x1 o.parts.length y1) (.slice x2 o.reads.length y2) (.slice x3 o.writes.length y3) (.slice x4 o.data.length y4)))) ?_
 rintro _ _ ⟨rfl,rfl⟩
 repeat (first|refine zF ?_|refine zB ?_|refine zE ?_|refine zK G G G ?_)
 rcases idxF_cases (isOut o.epoch) s.outs with ⟨hi,hall⟩|⟨i,hi,hidx,hpi,hbefore⟩
 rotate_left
 ·rw [hidx]
  have ef:freezeF s o=(s,⟨0,s.outs[i].data⟩):=by unfold freezeF; rw [find_hit hi hpi hbefore]
  have hd:=hod _ (List.getElem_mem hi)
  obtain ⟨bo,oo,rfl,eo,⟨ad,cd,rfl,hdat⟩,hat⟩:=o6.rd0.at hi
  refine L_yes G G (pv_geq G G) (by omega) ?_
  repeat (first|refine zF ?_|refine zB ?_|refine zE ?_|refine zK G G G ?_|refine zZ G G G G G ?_|refine L_ld G G G G G ?_|refine zJ G ?_|refine L_idx G G (by omega) G G ?_|refine L_atf G (by assumption) G G G G ?_)
  refine zY G G (zQ G G G) (cloneB_spec w0 (X+h6) _ _ hdat (by omega)) ?_
  rintro vd _ ⟨hd2,hdo,rfl⟩
  obtain ⟨ae,ce,rfl⟩:=hdo.shape
  repeat (first|refine zE ?_|refine zM ?_|refine L_build (vs:=[_]) (cells:=[_,_]) G G G G ?_|refine L_stA G (vs:=[_,_]) G G G G (c':=[_,_]) G G ?_)
  rw [ef]
  exact ⟨[_],X+(stC b (cellsS s (.slice a1 s.blocks.length c1) (.slice a2 s.kept.length c2) (.slice a3 s.locks.length c3) (.slice a4 s.preps.length c4) (.slice a5 s.dead.length c5) (.slice (some ⟨bo,oo,none⟩) s.outs.length c6) (.slice a7 s.sess.length c7))+h1+h2+h3+h4+h5+h6+h7)+hd2,_,⟨⟨_,rfl,zL G G G⟩,trivial⟩,PostS.data hs hdo.plainB,yK.out⟩
 ·rw [hi]
  have ef:freezeF s o=(if o.epoch≤s.epoch then (s,⟨26,[]⟩) else if o.lo<s.lo∨s.hi<o.hi∨(o.lo≠s.lo∧o.hi≠s.hi) then (s,⟨3,[]⟩) else if (ofS s o.lo o.hi).any (isPrep s)=true then (s,⟨11,[]⟩) else ({ goneS (endAll s (ofS s o.lo o.hi)) o.lo o.hi with epoch:=o.epoch,outs:=s.outs++[⟨o.epoch,o.lo,o.hi,partData s o.lo o.hi⟩] },⟨0,partData s o.lo o.hi⟩)):=by unfold freezeF; rw [List.find?_eq_none.2 (fun x hx=>by rw [hall x hx]; simp)]
  refine L_no G G (pv_geq G G) (by omega) ?_
  repeat (first|refine zF ?_|refine zE ?_|refine zP ?_|refine zI G ?_)
  refine yC [6] [0,1,2,3,4,5,6,7] (by kernel_rfl) G (by kernel_rfl) (by kernel_rfl) ?_
  repeat (first|refine yI G G G G G ?_|refine yE G G G G (yA G G G) ?_|refine W_load G G G G (yF G) (zG G (zS G)) ?_|refine W_load G G G G (yF G) (zL (vs:=[_,_]) G G G) ?_)
  refine W_call G G G G (zQ G G G) (of20_spec w0 h3 (.slice a3 s.locks.length c3) s.locks o.lo o.hi (rdL_locks.1 o3.rdh) (by omega)) (Kept.all _) ?_
  rintro vof _ ⟨hf,hrow,rfl⟩
  have oof:OwL w0 0 (ofS s o.lo o.hi) vof hf:=owL_ints.2 hrow
  have hofl:(ofS s o.lo o.hi).length≤64:=by
   unfold ofS
   have q1:=compI_le (sortI (ofL s.locks o.lo o.hi))
   have q2:=ofL_le s.locks o.lo o.hi
   rw [sortI_length] at q1; omega
  obtain ⟨a9,c9,rfl⟩:=oof.shape
  clear hrow
  refine ⟨(by repeat (first|exact trivial|exact zG G (zS G)|exact zL G G G|exact zX G (by assumption) G|exact zH G (by assumption) G|exact zH G (by assumption) (by assumption)|refine ⟨?_,?_⟩)),?_⟩
  repeat (first|refine yJ ?_|refine yI G G G G G ?_)
  generalize hts:ofS s o.lo o.hi=ts at *
  repeat (first|refine zF ?_|refine zR ?_)
  refine yC [] [0,1,2,3,4,5,6,7,8] (by kernel_rfl) G (by kernel_rfl) (by kernel_rfl) ?_
  repeat (first|refine yI G G G G G ?_|refine yE G G G G (yA G G G) ?_|refine W_load G G G G (yF G) (zG G (zS G)) ?_)
  refine W_dec G G G G (pv_leq G G) (fun n1=>?_) (fun n1=>?_)
  ·rw [if_pos n1] at ef
   repeat (first|refine yJ ?_|refine yI G G G G G ?_)
   repeat (first|refine zF ?_|refine zB ?_|refine zJ G ?_)
   refine zY G G (zQ G G G) (code22_spec w0 26) ?_
   rintro _ _ ⟨rfl,rfl⟩
   repeat (first|refine zE ?_|refine zM ?_|refine L_stA G (vs:=[_,_]) G G G G (c':=[_,_]) G G ?_)
   rw [ef]
   exact ⟨[_],X+(stC b (cellsS s (.slice a1 s.blocks.length c1) (.slice a2 s.kept.length c2) (.slice a3 s.locks.length c3) (.slice a4 s.preps.length c4) (.slice a5 s.dead.length c5) (.slice a6 s.outs.length c6) (.slice a7 s.sess.length c7))+h1+h2+h3+h4+h5+h6+h7),_,⟨⟨_,rfl,zL G G G⟩,trivial⟩,PostS.same hs,yK.out⟩
  ·rw [if_neg n1] at ef
   repeat (first|refine yJ ?_|refine yI G G G G G ?_)
   repeat (first|refine zF ?_|refine zI G ?_)
   refine hold_join (fun g' L'=>∃ (R:Hp),Sub g' [(2,.pointer (some ⟨b2,0,none⟩)),(3,.pointer (some ⟨b3,0,none⟩)),(4,.pointer (some ⟨b4,0,none⟩)),(5,.pointer (some ⟨b5,0,none⟩)),(7,.slice a9 ts.length c9),(55,.bool (decide (o.lo<s.lo∨s.hi<o.hi∨(o.lo≠s.lo∧o.hi≠s.hi))))] ∧
    L'=X+(stC b (cellsS s (.slice a1 s.blocks.length c1) (.slice a2 s.kept.length c2) (.slice a3 s.locks.length c3) (.slice a4 s.preps.length c4) (.slice a5 s.dead.length c5) (.slice a6 s.outs.length c6) (.slice a7 s.sess.length c7))+h1+h2+h3+h4+h5+h6+h7)+ptrC b2 b+opC b3 o (.slice x1 o.parts.length y1) (.slice x2 o.reads.length y2) (.slice x3 o.writes.length y3) (.slice x4 o.data.length y4)+resC b4+spanC b5 o.lo o.hi+hf+fr+R) ?_ ?_
   ·refine yC [] [0,1,2,3,4,5,6,7,8,9,10,11,12,13,14,15,16,17,18,19,20,21,22,23,24,25,26,27,28,29,30,31,32,33,34,35,36,37,38] (by kernel_rfl) G (by kernel_rfl) (by kernel_rfl) ?_
    repeat (first|refine yI G G G G G ?_|refine yE G G G G (yA G G G) ?_|refine W_load G G G G (yF G) (zG G (zS G)) ?_)
    refine W_dec G G G G (pv_lss G G) (fun n2=>?_) (fun n2=>?_)
    ·repeat (first|refine yJ ?_|refine yI G G G G G ?_|refine W_skip G G G G ?_)
     rw [decide_eq_true (show o.lo<s.lo∨s.hi<o.hi∨(o.lo≠s.lo∧o.hi≠s.hi) from .inl n2)]
     exact ⟨_,(by repeat (first|exact zT _|refine zO G ?_)),yK.out⟩
    ·repeat (first|refine yI G G G G G ?_|refine yE G G G G (yA G G G) ?_|refine W_load G G G G (yF G) (zG G (zS G)) ?_)
     refine W_dec G G G G (pv_gtr G G) (fun n3=>?_) (fun n3=>?_)
     ·repeat (first|refine yJ ?_|refine yI G G G G G ?_|refine W_skip G G G G ?_)
      rw [decide_eq_true (show o.lo<s.lo∨s.hi<o.hi∨(o.lo≠s.lo∧o.hi≠s.hi) from .inr (.inl n3))]
      exact ⟨_,(by repeat (first|exact zT _|refine zO G ?_)),yK.out⟩
     ·repeat (first|refine yI G G G G G ?_|refine yE G G G G (yA G G G) ?_|refine W_load G G G G (yF G) (zG G (zS G)) ?_)
      refine W_dec G G G G (pv_neq G G) (fun n4=>?_) (fun n4=>?_)
      ·repeat (first|refine yI G G G G G ?_|refine yE G G G G (yA G G G) ?_|refine W_load G G G G (yF G) (zG G (zS G)) ?_)
       refine W_dec G G G G (pv_neq G G) (fun n5=>?_) (fun n5=>?_)
       ·repeat (first|refine yJ ?_|refine yI G G G G G ?_)
        rw [decide_eq_true (show o.lo<s.lo∨s.hi<o.hi∨(o.lo≠s.lo∧o.hi≠s.hi) from .inr (.inr ⟨n4,n5⟩))]
        exact ⟨_,(by repeat (first|exact zT _|refine zO G ?_)),yK.out⟩
       ·repeat (first|refine yJ ?_|refine yI G G G G G ?_)
        rw [decide_eq_false (show ¬ (o.lo<s.lo∨s.hi<o.hi∨(o.lo≠s.lo∧o.hi≠s.hi)) by omega)]
        exact ⟨_,(by repeat (first|exact zT _|refine zO G ?_)),yK.out⟩
      ·repeat (first|refine yJ ?_|refine yI G G G G G ?_|refine W_skip G G G G ?_)
       rw [decide_eq_false (show ¬ (o.lo<s.lo∨s.hi<o.hi∨(o.lo≠s.lo∧o.hi≠s.hi)) by omega)]
       exact ⟨_,(by repeat (first|exact zT _|refine zO G ?_)),yK.out⟩
   ·rintro g' _ ⟨R,hsub,rfl⟩
    refine hold_env hsub ?_
    clear hsub g'
    refine hold_cond_d G (fun n2=>?_) (fun n2=>?_)
    ·rw [if_pos n2] at ef
     repeat (first|refine zF ?_|refine zB ?_)
     refine zY G G (zQ G G G) (code22_spec w0 3) ?_
     rintro _ _ ⟨rfl,rfl⟩
     repeat (first|refine zE ?_|refine zM ?_|refine L_stA G (vs:=[_,_]) G G G G (c':=[_,_]) G G ?_)
     rw [ef]
     exact ⟨[_],X+(stC b (cellsS s (.slice a1 s.blocks.length c1) (.slice a2 s.kept.length c2) (.slice a3 s.locks.length c3) (.slice a4 s.preps.length c4) (.slice a5 s.dead.length c5) (.slice a6 s.outs.length c6) (.slice a7 s.sess.length c7))+h1+h2+h3+h4+h5+h6+h7),_,⟨⟨_,rfl,zL G G G⟩,trivial⟩,PostS.same hs,yK.out⟩
    ·rw [if_neg n2] at ef
     repeat (first|refine zF ?_|refine zB ?_|refine zK G G G ?_|refine L_clo G G G ?_)
     refine zY G G (zQ G G G) (containsFuncI_spec w0 (hf+(X+h4+ptrC b2 b+stC b [.int .i64 (s.lo),.int .i64 (s.hi),.int .i64 (s.epoch),.slice a1 s.blocks.length c1,.slice a2 s.kept.length c2,.slice a3 s.locks.length c3,.slice a4 s.preps.length c4,.slice a5 s.dead.length c5,.slice a6 s.outs.length c6,.slice a7 s.sess.length c7])) (.slice a9 ts.length c9) ts 208 [.pointer (some ⟨b2,0,none⟩)] (isPrep s) (oof.rdh.mono G) (by omega)
      (fun x hx=>Spec.frameL (hadd_comm _ _) (freeze2_spec w0 (X+h4) b b2 _ _ _ _ _ _ (.slice a4 s.preps.length c4) _ _ _ s.preps x o4.rd0 (by omega)))) ?_
     rintro _ _ ⟨rfl,rfl⟩
     cases hbz:ts.any (isPrep s)
     rotate_left
     ·rw [if_pos hbz] at ef
      repeat (first|refine zF ?_|refine zB ?_|refine zE ?_|refine zK G G G ?_|refine zJ G ?_)
      refine zY G G (zQ G G G) (code22_spec w0 11) ?_
      rintro _ _ ⟨rfl,rfl⟩
      repeat (first|refine zE ?_|refine zM ?_|refine L_stA G (vs:=[_,_]) G G G G (c':=[_,_]) G G ?_)
      rw [ef]
      exact ⟨[_],X+(stC b (cellsS s (.slice a1 s.blocks.length c1) (.slice a2 s.kept.length c2) (.slice a3 s.locks.length c3) (.slice a4 s.preps.length c4) (.slice a5 s.dead.length c5) (.slice a6 s.outs.length c6) (.slice a7 s.sess.length c7))+h1+h2+h3+h4+h5+h6+h7),_,⟨⟨_,rfl,zL G G G⟩,trivial⟩,PostS.same hs,yK.out⟩
     ·rw [if_neg (by rw [hbz]; simp)] at ef
      repeat (first|refine zF ?_|refine zB ?_|refine zE ?_|refine zK G G G ?_|refine L_ld G G G G G ?_|refine zP ?_|refine zI G ?_)
      refine zY G G (zQ G G G) (end_spec w0 hf b (.int .i64 s.lo) (.int .i64 s.hi) (.int .i64 s.epoch) (.slice a1 s.blocks.length c1) (.slice a2 s.kept.length c2) (.slice a4 s.preps.length c4) (.slice a6 s.outs.length c6) (.slice a7 s.sess.length c7) (.slice a3 s.locks.length c3) (.slice a5 s.dead.length c5) (.slice a9 ts.length c9) s.locks s.dead ts h3 h5 oof.rdh o3 o5 hk.dead (by omega) (by omega) (by omega)) ?_
      rintro _ _ ⟨E1,vl',vd',h3',h5',rfl,o3',o5',rfl⟩
      obtain ⟨a3',c3',rfl⟩:=o3'.shape
      obtain ⟨a5',c5',rfl⟩:=o5'.shape
      repeat (first|refine zF ?_|refine zR ?_|refine zB ?_|refine zE ?_|refine zK G G G ?_|refine zZ G G G G G ?_|refine L_ld G G G G G ?_|refine L_len G G G ?_|refine L_clo G G G ?_)
      refine hold_count s.kept.length (fun k g L=>∃ (vo:Value) (h8 R:Hp),g=[(2,.pointer (some ⟨b2,0,none⟩)),(3,.pointer (some ⟨b3,0,none⟩)),(4,.pointer (some ⟨b4,0,none⟩)),(5,.pointer (some ⟨b5,0,none⟩)),(8,.func (.func 209) #[] #[.pointer (some ⟨b5,0,none⟩)]),(9,vo),(108,.slice a2 s.kept.length c2),(109,.int .i64 s.kept.length),(110,.int .i64 k)] ∧
        OwL w0 (X+h2) ((s.kept.take k).filter (inK o.lo o.hi)) vo h8∧L=X+(stC b (cellsS s (.slice a1 s.blocks.length c1) (.slice a2 s.kept.length c2) ((.slice a3' (withoutL s.locks ts).length c3')) (.slice a4 s.preps.length c4) ((.slice a5' (endD s.dead ts).length c5')) (.slice a6 s.outs.length c6) (.slice a7 s.sess.length c7))+h1+h2+h3'+h4+h5'+h6+h7)+ptrC b2 b+opC b3 o (.slice x1 o.parts.length y1) (.slice x2 o.reads.length y2) (.slice x3 o.writes.length y3) (.slice x4 o.data.length y4)+resC b4+spanC b5 o.lo o.hi+h8+fr+R) _
       ⟨_,0,_,rfl,OwL.nil _ _,by simp only [yB]; exact yK.out⟩ (by repeat (first|exact zT _|refine zO G ?_)) ?_
      clear R
      rintro k g L hkk ⟨vo,h8,R,rfl,o8,rfl⟩
      repeat (first|refine zF ?_|refine zB ?_)
      refine yG G G (pv_lss G G) (fun n3=>?_) (fun n3=>?_)
      ·have hx:k<s.kept.length:=by omega
       obtain ⟨bw,ow,rfl,ew,hrw,hat⟩:=o2.rd0.at hx
       obtain ⟨aw,cw,rfl,hdat⟩:=id hrw
       repeat (first|refine zF ?_|refine zR ?_|refine zB ?_|refine zE ?_|refine zK G G G ?_|refine zP ?_|refine zJ G ?_|refine L_idx G G (by omega) G G ?_|refine L_atA G (by assumption) G G G G ?_|refine L_ldA G (vs:=[_,_,_]) G G G G G ?_|refine L_stA G (vs:=[_,_,_]) G G G G (c':=[_,_,_]) G G ?_|refine L_alloc (c:=[_,_,_]) G G G (fun _=>?_))
       rename_i b11
       refine zY G G (zQ G G G) (freeze3_spec w0 s.kept[k] _ (X+h2) hrw b5 o.lo o.hi) ?_
       rintro _ _ ⟨rfl,rfl⟩
       cases hin:inK o.lo o.hi s.kept[k]
       ·repeat (first|refine zB ?_|refine zE ?_|refine zK G G G ?_|refine zP ?_|refine zI G ?_|refine L_add G G (by omega) (by omega) G G ?_)
        exact ⟨hx,_,(by repeat (first|exact zT _|refine zO G ?_)),vo,h8,_,rfl,by rw [List.take_succ_eq_append_getElem hx,List.filter_append,List.filter_cons,if_neg (by rw [hin]; simp),List.filter_nil,List.append_nil]; exact o8,yK.out⟩
       ·repeat (first|refine zB ?_|refine zE ?_|refine zK G G G ?_|refine zJ G ?_|refine L_ldA G (vs:=[_,_,_]) G G G G G ?_|refine L_bs (vs:=[_]) (cells:=[_,_,_]) G G G G G G (fun _=>?_))
        refine L_eff G G (ev_appendL (X:=X+h2) (ns:=[s.kept[k]]) (h:=h8) G G o8 (rd_one G) (All2.one hrw) G G G G G (by have:=filter_len (inK o.lo o.hi) (s.kept.take k); rw [List.length_take] at this; simp only [List.length_singleton]; omega)) ?_
        rintro vo' _ ⟨h8',o8',rfl⟩
        repeat (first|refine zB ?_|refine zE ?_|refine zK G G G ?_|refine L_add G G (by omega) (by omega) G G ?_)
        exact ⟨hx,_,(by repeat (first|exact zT _|refine zO G ?_)),vo',h8',_,rfl,by rw [List.take_succ_eq_append_getElem hx,List.filter_append,List.filter_cons,if_pos hin,List.filter_nil]; exact o8',yK.out⟩
      ·have hkn:k=s.kept.length:=by omega
       subst hkn
       rw [List.take_length] at o8
       obtain ⟨a8,c8,rfl⟩:=o8.shape
       have hkl:=filter_len (inK o.lo o.hi) s.kept
       have hbl:=filter_len (fun x:Blk=>inS o.lo o.hi x.no) s.blocks
       have hpl:=partE_len (l:=s.blocks.filter fun x=>inS o.lo o.hi x.no) (k:=s.kept.filter (inK o.lo o.hi)) (fun x hx=>hk.blocks.four x (List.mem_filter.1 hx).1) (fun x hx=>hk.kept.1 x (List.mem_filter.1 hx).1)
       repeat (first|refine zF ?_|refine yD ?_|refine zE ?_|refine zI G ?_)
       refine yC [6,8] [0,1,2,3,4,5,7,6,8,9] (by kernel_rfl) G (by kernel_rfl) (by kernel_rfl) ?_
       repeat (first|refine yI G G G G G ?_|refine yE G G G G (yA G G G) ?_|refine W_load G G G G (yF G) (zG G (zS G)) ?_|refine W_load G G G G (yF G) (zL (vs:=[_,_]) G G G) ?_)
       refine W_call G G G G (zQ G G G) (in19_spec w0 (X+h1) (.slice a1 s.blocks.length c1) s.blocks o.lo o.hi o1.rd0 (by omega) (fun x hx=>by have:=hk.blocks.four x hx; omega)) (Kept.all _) ?_
       rintro vb _ ⟨E2,hb2,ob2,rfl⟩
       obtain ⟨a10,c10,rfl⟩:=ob2.shape
       refine ⟨(by repeat (first|exact trivial|exact zG G (zS G)|exact zL G G G|exact zX G (by assumption) G|exact zH G (by assumption) G|exact zH G (by assumption) (by assumption)|refine ⟨?_,?_⟩)),?_⟩
       skip
       refine W_call G G G G (zQ G G G) (part22_spec w0 (X+h2+h8+(E2+hb2)) _ _ _ _ (ob2.rd (R:=X+h2+h8) (hf:=⟨by ac_rfl⟩)) (o8.rd0.mono G) (by omega)) (Kept.all _) ?_
       rintro vp _ ⟨h9,o9,rfl⟩
       obtain ⟨a11,c11,rfl⟩:=o9.shape
       refine ⟨(by repeat (first|exact trivial|exact zG G (zS G)|exact zL G G G|exact zX G (by assumption) G|exact zH G (by assumption) G|exact zH G (by assumption) (by assumption)|refine ⟨?_,?_⟩)),?_⟩
       repeat (first|refine yJ ?_|refine yI G G G G G ?_)
       rw [show partE (s.blocks.filter fun x=>inS o.lo o.hi x.no) (s.kept.filter (inK o.lo o.hi))=partData s o.lo o.hi from rfl] at o9 hpl ⊢
       generalize hpd:partData s o.lo o.hi=pd at *
       repeat (refine zF ?_)
       refine yC [7,11] [0,1,2,3,4,5,6,7,8,9,10,11] (by kernel_rfl) G (by kernel_rfl) (by kernel_rfl) ?_
       repeat (first|refine yI G G G G G ?_|refine yE G G G G (yA G G G) ?_|refine W_load G G G G (yF G) (zG G (zS G)) ?_|refine W_load G G G G (yF G) (zL (vs:=[_,_]) G G G) ?_)
       refine W_call G G G G (zQ G G G) (without19_spec w0 (X+h1) (.slice a1 s.blocks.length c1) s.blocks o.lo o.hi o1.rd0 (by omega) (fun x hx=>by have:=hk.blocks.four x hx; omega)) (Kept.all _) ?_
       rintro vb _ ⟨E3,h1',o1',rfl⟩
       obtain ⟨a1',c1',rfl⟩:=o1'.shape
       refine ⟨(by repeat (first|exact trivial|exact zG G (zS G)|exact zL G G G|exact zX G (by assumption) G|exact zH G (by assumption) G|exact zH G (by assumption) (by assumption)|refine ⟨?_,?_⟩)),?_⟩
       repeat (first|refine yI G G G G G ?_|refine yE G G G G (yA G G G) ?_)
       refine W_eff (W':=?wk1) G G G G (ev_store G G G G G (c':=[_,_,_,_,_,_,_,_,_,_]) G) ?wkk1 ?wrest1
       case wkk1=>repeat (first|exact Kept.nil|refine Kept.drop (by kernel_rfl) ?_|refine Kept.keep ?_)
       rintro _ _ rfl
       refine ⟨(by repeat (first|exact trivial|exact zG G (zS G)|exact zL G G G|exact zX G (by assumption) G|exact zH G (by assumption) G|exact zH G (by assumption) (by assumption)|refine ⟨?_,?_⟩)),?_⟩
       repeat (refine yJ ?_)
       repeat (refine zF ?_)
       refine yC [7,11] [0,1,2,3,4,5,6,7,8,9,10,11] (by kernel_rfl) G (by kernel_rfl) (by kernel_rfl) ?_
       repeat (first|refine yI G G G G G ?_|refine yE G G G G (yA G G G) ?_|refine W_load G G G G (yF G) (zG G (zS G)) ?_)
       refine W_call G G G G (zQ G G G) (deleteFuncKpt_spec w0 (X+spanC b5 o.lo o.hi) s.kept (.slice a2 s.kept.length c2) h2 209 [.pointer (some ⟨b5,0,none⟩)] (inK o.lo o.hi) (o2.mono G) (by omega) (fun Y x e hx he=>Spec.frameL (hadd_comm _ _) (freeze3_spec w0 x e Y he b5 o.lo o.hi))) (Kept.all _) ?_
       rintro vk _ ⟨h2',o2',rfl⟩
       obtain ⟨a2',c2',rfl⟩:=o2'.shape
       refine ⟨(by repeat (first|exact trivial|exact zG G (zS G)|exact zL G G G|exact zX G (by assumption) G|exact zH G (by assumption) G|exact zH G (by assumption) (by assumption)|refine ⟨?_,?_⟩)),?_⟩
       repeat (first|refine yI G G G G G ?_|refine yE G G G G (yA G G G) ?_)
       refine W_eff (W':=?wk2) G G G G (ev_store G G G G G (c':=[_,_,_,_,_,_,_,_,_,_]) G) ?wkk2 ?wrest2
       case wkk2=>repeat (first|exact Kept.nil|refine Kept.drop (by kernel_rfl) ?_|refine Kept.keep ?_)
       rintro _ _ rfl
       refine ⟨(by repeat (first|exact trivial|exact zG G (zS G)|exact zL G G G|exact zX G (by assumption) G|exact zH G (by assumption) G|exact zH G (by assumption) (by assumption)|refine ⟨?_,?_⟩)),?_⟩
       repeat (refine yJ ?_)
       obtain ⟨nlo,hnlo⟩:∃ x,x=if o.lo=s.lo∧o.hi=s.hi then 0 else if o.lo=s.lo then o.hi else s.lo:=⟨_,rfl⟩
       obtain ⟨nhi,hnhi⟩:∃ x,x=if o.lo=s.lo∧o.hi=s.hi then 0 else if o.lo=s.lo then s.hi else o.lo:=⟨_,rfl⟩
       repeat (refine zF ?_)
       refine hold_join (fun g' L'=>∃ (R:Hp),Sub g' [(2,.pointer (some ⟨b2,0,none⟩)),(3,.pointer (some ⟨b3,0,none⟩)),(4,.pointer (some ⟨b4,0,none⟩)),(12,.slice a11 pd.length c11)] ∧
        L'=X+spanC b5 o.lo o.hi+E3+(stC b [.int .i64 (nlo),.int .i64 (nhi),.int .i64 (s.epoch),(.slice a1' (s.blocks.filter fun x=>!inS o.lo o.hi x.no).length c1'),(.slice a2' (s.kept.filter fun x=>!inK o.lo o.hi x).length c2'),(.slice a3' (withoutL s.locks ts).length c3'),.slice a4 s.preps.length c4,(.slice a5' (endD s.dead ts).length c5'),.slice a6 s.outs.length c6,.slice a7 s.sess.length c7]+h1'+h2'+h3'+h4+h5'+h6+h7)+h9+ptrC b2 b+opC b3 o (.slice x1 o.parts.length y1) (.slice x2 o.reads.length y2) (.slice x3 o.writes.length y3) (.slice x4 o.data.length y4)+resC b4+fr+R) ?_ ?_
       ·repeat (first|refine zF ?_|refine zR ?_)
        refine yC [2] [0,1,2,3,4] (by kernel_rfl) G (by kernel_rfl) (by kernel_rfl) ?_
        repeat (first|refine W_load G G G G (yF G) (zG G (zS G)) ?_|refine W_load G G G G (yF G) (zL (vs:=[_,_]) G G G) ?_)
        refine W_call G G G G (zQ G G G) (span22_spec w0 b (.int .i64 s.epoch) (.slice a1' (s.blocks.filter fun x=>!inS o.lo o.hi x.no).length c1') (.slice a2' (s.kept.filter fun x=>!inK o.lo o.hi x).length c2') (.slice a3' (withoutL s.locks ts).length c3') (.slice a4 s.preps.length c4) (.slice a5' (endD s.dead ts).length c5') (.slice a6 s.outs.length c6) (.slice a7 s.sess.length c7) s.lo s.hi) (Kept.all _) ?_
        rintro _ _ ⟨rfl,rfl⟩
        refine ⟨(by repeat (first|exact trivial|exact zG G (zS G)|exact zL G G G|exact zX G (by assumption) G|exact zH G (by assumption) G|exact zH G (by assumption) (by assumption)|refine ⟨?_,?_⟩)),?_⟩
        skip
        refine yE G G G G (pv_eql_struct (r:=(decide (o.lo=s.lo)&&(decide (o.hi=s.hi)&&true))) G G (by kernel_rfl) (by kernel_rfl) (by kernel_rfl)) ?_
        by_cases q1:o.lo=s.lo
        ·by_cases q2:o.hi=s.hi
         ·rw [decide_eq_true q1,decide_eq_true q2,show (true&&(true&&true))=true from rfl]
          repeat (first|refine yJ ?_|refine yI G G G G G ?_)
          repeat (refine zJ G ?_)
          refine yC [5,9] [0,1,2,3,4,5,6,7,8,9] (by kernel_rfl) G (by kernel_rfl) (by kernel_rfl) ?_
          repeat (first|refine yI G G G G G ?_|refine yE G G G G (yA G G G) ?_|refine W_load G G G G (yF G) (zG G (zS G)) ?_)
          refine W_eff G G G G (ev_store G G G G G (c':=[_,_,_,_,_,_,_,_,_,_]) G) (Kept.all _) ?_
          rintro _ _ rfl
          refine ⟨(by repeat (first|exact trivial|exact zG G (zS G)|exact zL G G G|exact zX G (by assumption) G|exact zH G (by assumption) G|exact zH G (by assumption) (by assumption)|refine ⟨?_,?_⟩)),?_⟩
          repeat (first|refine yI G G G G G ?_|refine yE G G G G (yA G G G) ?_)
          refine W_eff G G G G (ev_store G G G G G (c':=[_,_,_,_,_,_,_,_,_,_]) G) (Kept.all _) ?_
          rintro _ _ rfl
          refine ⟨(by repeat (first|exact trivial|exact zG G (zS G)|exact zL G G G|exact zX G (by assumption) G|exact zH G (by assumption) G|exact zH G (by assumption) (by assumption)|refine ⟨?_,?_⟩)),?_⟩
          repeat (refine yJ ?_)
          skip
          rw [show nlo=0 by rw [hnlo,if_pos ⟨q1,q2⟩],show nhi=0 by rw [hnhi,if_pos ⟨q1,q2⟩]]
          exact ⟨_,(by repeat (first|exact zT _|refine zO G ?_)),yK.out⟩
         ·rw [decide_eq_true q1,decide_eq_false q2,show (true&&(false&&true))=false from rfl]
          repeat (first|refine yJ ?_|refine yI G G G G G ?_)
          repeat (first|refine zF ?_|refine zI G ?_)
          refine yC [] [0,1,2,3,4,5,6,7,8] (by kernel_rfl) G (by kernel_rfl) (by kernel_rfl) ?_
          repeat (first|refine yI G G G G G ?_|refine yE G G G G (yA G G G) ?_|refine W_load G G G G (yF G) (zG G (zS G)) ?_)
          refine W_yes G G G G (pv_eql G G) q1 ?_
          repeat (first|refine yJ ?_|refine yI G G G G G ?_)
          repeat (first|refine zB ?_|refine zE ?_|refine zK G G G ?_|refine zZ G G G G G ?_|refine L_ld G G G G G ?_|refine zJ G ?_|refine L_st G G G (c':=[_,_,_,_,_,_,_,_,_,_]) G G G G ?_)
          rw [show nlo=o.hi by rw [hnlo,if_neg (fun h=>q2 h.2),if_pos q1],show nhi=s.hi by rw [hnhi,if_neg (fun h=>q2 h.2),if_pos q1]]
          exact ⟨_,(by repeat (first|exact zT _|refine zO G ?_)),yK.out⟩
        ·rw [decide_eq_false q1,show (false&&(decide (o.hi=s.hi)&&true))=false from rfl]
         repeat (first|refine yJ ?_|refine yI G G G G G ?_)
         repeat (first|refine zF ?_|refine zI G ?_)
         refine yC [] [0,1,2,3,4,5,6,7,8] (by kernel_rfl) G (by kernel_rfl) (by kernel_rfl) ?_
         repeat (first|refine yI G G G G G ?_|refine yE G G G G (yA G G G) ?_|refine W_load G G G G (yF G) (zG G (zS G)) ?_)
         refine W_no G G G G (pv_eql G G) q1 ?_
         repeat (first|refine yJ ?_|refine yI G G G G G ?_)
         repeat (first|refine zB ?_|refine zE ?_|refine zK G G G ?_|refine zZ G G G G G ?_|refine L_ld G G G G G ?_|refine zI G ?_|refine L_st G G G (c':=[_,_,_,_,_,_,_,_,_,_]) G G G G ?_)
         rw [show nlo=s.lo by rw [hnlo,if_neg (fun h=>q1 h.1),if_neg q1],show nhi=o.lo by rw [hnhi,if_neg (fun h=>q1 h.1),if_neg q1]]
         exact ⟨_,(by repeat (first|exact zT _|refine zO G ?_)),yK.out⟩
       ·rintro g' _ ⟨R,hsub,rfl⟩
        refine hold_env hsub ?_
        clear hsub g'
        repeat (first|refine zF ?_|refine zB ?_|refine zE ?_|refine zK G G G ?_|refine zZ G G G G G ?_|refine L_ld G G G G G ?_|refine L_st G G G (c':=[_,_,_,_,_,_,_,_,_,_]) G G G G ?_)
        refine yC [13,15,16,20] [0,1,2,3,4,5,6,7,8,9,10,11,12,13,14,15,16,17,18,19,20] (by kernel_rfl) G (by kernel_rfl) (by kernel_rfl) ?_
        repeat (first|refine yI G G G G G ?_|refine yE G G G G (yA G G G) ?_|refine W_load G G G G (yF G) (zG G (zS G)) ?_)
        refine W_call G G G G (zQ G G G) (cloneB_spec w0 h9 (.slice a11 pd.length c11) pd o9.rdh (by omega)) (Kept.all _) ?_
        rintro _ _ ⟨h10,o10,rfl⟩
        obtain ⟨a12,c12,rfl⟩:=o10.shape
        refine ⟨(by repeat (first|exact trivial|exact zG G (zS G)|exact zL G G G|exact zX G (by assumption) G|exact zH G (by assumption) G|exact zH G (by assumption) (by assumption)|refine ⟨?_,?_⟩)),?_⟩
        repeat (refine yE G G G G (pv_build (vs:=[_,_,_,_]) (cells:=[_,_,_,_]) G G) ?_)
        refine W_eff G G G G (ev_buildSlice (vs:=[_]) (cells:=[_,_,_,_]) G G G G) (Kept.all _) ?_
        rintro _ _ ⟨b13,rfl,rfl⟩
        refine ⟨(by repeat (first|exact trivial|exact zG G (zS G)|exact zL G G G|exact zX G (by assumption) G|exact zH G (by assumption) G|exact zH G (by assumption) (by assumption)|refine ⟨?_,?_⟩)),?_⟩
        have hnew:Rep.rd w0 (X+h10) (⟨o.epoch,o.lo,o.hi,pd⟩:Outp) [.int .i64 o.epoch,.int .i64 o.lo,.int .i64 o.hi,.slice a12 pd.length c12]:=⟨a12,c12,rfl,o10.plainB.rd (X:=0) (R:=X)⟩
        refine W_eff G G G G (ev_appendL (X:=X+h10) (ns:=[(⟨o.epoch,o.lo,o.hi,pd⟩:Outp)]) (h:=h6) G G (o6.mono G) (rd_one G) (All2.one hnew) G G G G G (by simp only [List.length_singleton]; omega)) (Kept.all _) ?_
        rintro vo' _ ⟨h6',o6',rfl⟩
        obtain ⟨a6',c6',rfl⟩:=o6'.shape
        refine ⟨(by repeat (first|exact trivial|exact zG G (zS G)|exact zL G G G|exact zX G (by assumption) G|exact zH G (by assumption) G|exact zH G (by assumption) (by assumption)|refine ⟨?_,?_⟩)),?_⟩
        repeat (first|refine yI G G G G G ?_|refine yE G G G G (yA G G G) ?_)
        refine W_eff (W':=?wk3) G G G G (ev_store G G G G G (c':=[_,_,_,_,_,_,_,_,_,_]) G) ?wkk3 ?wrest3
        case wkk3=>repeat (first|exact Kept.nil|refine Kept.drop (by kernel_rfl) ?_|refine Kept.keep ?_)
        rintro _ _ rfl
        refine ⟨(by repeat (first|exact trivial|exact zG G (zS G)|exact zL G G G|exact zX G (by assumption) G|exact zH G (by assumption) G|exact zH G (by assumption) (by assumption)|refine ⟨?_,?_⟩)),?_⟩
        repeat (refine yJ ?_)
        repeat (first|refine zF ?_|refine zB ?_|refine zE ?_|refine zK G G G ?_|refine zM ?_|refine L_build (vs:=[_]) (cells:=[_,_]) G G G G ?_|refine L_stA G (vs:=[_,_]) G G G G (c':=[_,_]) G G ?_)
        rw [ef]
        subst hnlo hnhi
        exact ⟨[_],X+(spanC b5 o.lo o.hi+E3+h10)+(stC b [.int .i64 (if o.lo=s.lo∧o.hi=s.hi then 0 else if o.lo=s.lo then o.hi else s.lo),.int .i64 (if o.lo=s.lo∧o.hi=s.hi then 0 else if o.lo=s.lo then s.hi else o.lo),.int .i64 (o.epoch),(.slice a1' (s.blocks.filter fun x=>!inS o.lo o.hi x.no).length c1'),(.slice a2' (s.kept.filter fun x=>!inK o.lo o.hi x).length c2'),(.slice a3' (withoutL s.locks ts).length c3'),.slice a4 s.preps.length c4,(.slice a5' (endD s.dead ts).length c5'),(.slice a6' (s.outs++[(⟨o.epoch,o.lo,o.hi,pd⟩:Outp)]).length c6'),.slice a7 s.sess.length c7]+h1'+h2'+h3'+h4+h5'+h6'+h7)+h9,_,⟨⟨_,rfl,zL G G G⟩,trivial⟩,⟨spanC b5 o.lo o.hi+E3+h10,_,h9,⟨a11,c11,rfl,o9⟩,
         ⟨a1',c1',a2',c2',a3',c3',a4,c4,a5',c5',a6',c6',a7,c7,h1',h2',h3',h4,h5',h6',h7,o1'.mono (show X+(spanC b5 o.lo o.hi+E3+h10)=E3+(X+spanC b5 o.lo o.hi+h10) by ac_rfl),o2'.mono (show X+(spanC b5 o.lo o.hi+E3+h10)=X+spanC b5 o.lo o.hi+(E3+h10) by ac_rfl),o3',o4.mono G,o5',o6'.mono (show X+(spanC b5 o.lo o.hi+E3+h10)=X+h10+(spanC b5 o.lo o.hi+E3) by ac_rfl),o7.mono G,rfl⟩,rfl⟩,yK.out⟩
end Sl
end Go.Proofs.YtpkealohodeifaaGreat
namespace Go.Proofs.YtpkealohodeifaaGreat
open Go Go.RowKit
namespace Sl
set_option maxHeartbeats 16000000
set_option maxRecDepth 4000
set_option synthInstance.maxHeartbeats 400000
set_option synthInstance.maxSize 100000
attribute [local irreducible] Hold HoldL HoldW
theorem filter2_len {α:Type} (p q:α→Bool) (h:∀ x,p x=true→q x=false):∀ l:List α,(l.filter p).length+(l.filter q).length≤l.length
 | []=>by simp
 | x::l=>by
  have ih:=filter2_len p q h l
  rw [List.filter_cons,List.filter_cons]
  by_cases h1:p x=true
  ·rw [if_pos h1,if_neg (by rw [h x h1]; simp)]; simp only [List.length_cons]; omega
  ·rw [if_neg h1]; split<;>simp only [List.length_cons]<;>omega
theorem ltKey_asym {s n s' n':Int} (h:ltKey s n s' n'):¬ ltKey s' n' s n:=by unfold ltKey at *; omega
theorem ltKey_trans {a b c d e f:Int} (h:ltKey a b c d) (h2:ltKey c d e f):ltKey a b e f:=by unfold ltKey at *; omega
theorem keepK_len (l:List Kpt) (snap no:Int) (d:List Bt):(keepK l snap no d).length≤l.length+1:=by
 have:=filter2_len (fun x:Kpt=>decide (ltKey x.snap x.no snap no)) (fun x:Kpt=>decide (ltKey snap no x.snap x.no)) (fun x h=>decide_eq_false (ltKey_asym (of_decide_eq_true h))) l
 unfold keepK
 rw [List.length_append,List.length_cons]; omega
theorem keepK_ok {l:List Kpt} (h:OkK l) (snap no:Int) {d:List Bt} (hd:d.length=4):OkK (keepK l snap no d):=by
 refine ⟨?_,?_⟩
 ·intro x hx
  unfold keepK at hx
  rcases List.mem_append.1 hx with hx|hx
  ·exact h.1 x (List.mem_filter.1 hx).1
  ·rcases List.mem_cons.1 hx with rfl|hx
   ·exact hd
   ·exact h.1 x (List.mem_filter.1 hx).1
 ·unfold keepK
  refine List.pairwise_append.2 ⟨h.2.filter _,List.pairwise_cons.2 ⟨fun x hx=>of_decide_eq_true (List.mem_filter.1 hx).2,h.2.filter _⟩,?_⟩
  intro x hx y hy
  have h1:ltKey x.snap x.no snap no:=of_decide_eq_true (List.mem_filter.1 hx).2
  rcases List.mem_cons.1 hy with rfl|hy
  ·exact h1
  ·exact ltKey_trans h1 (of_decide_eq_true (List.mem_filter.1 hy).2)
theorem wroteB_ok :∀ (ws:List Wr) {l:List Blk},OkB l→OkB (wroteB l ws)
 | [],_,h=>h
 | w::ws,l,h=>wroteB_ok ws (l:=setB l w.block w.data) (setB_ok h _ _)
theorem keptAll_ok {bs:List Blk} (hb:OkB bs) (snap:Int):∀ (ns:List Int) {l:List Kpt},OkK l→OkK (keptAll l snap bs ns)
 | [],_,h=>h
 | n::ns,l,h=>keptAll_ok hb snap ns (l:=keepK l snap n (getB bs n)) (keepK_ok h _ _ (getB_len hb n))
theorem keptAll_len (bs:List Blk) (snap:Int):∀ (ns:List Int) (l:List Kpt),(keptAll l snap bs ns).length≤l.length+ns.length
 | [],l=>by simp [keptAll]
 | n::ns,l=>by
  have:=keptAll_len bs snap ns (keepK l snap n (getB bs n))
  have h2:=keepK_len l snap n (getB bs n)
  show (keptAll (keepK l snap n (getB bs n)) snap bs ns).length≤_
  rw [List.length_cons]; omega
theorem wroteB_succ (l:List Blk) {ws:List Wr} {k:Nat} (h:k<ws.length):wroteB l (ws.take (k+1))=setB (wroteB l (ws.take k)) ws[k].block ws[k].data:=by
 unfold wroteB; rw [List.take_succ_eq_append_getElem h,List.foldl_append]; rfl
theorem keptAll_succ (l:List Kpt) (snap:Int) (bs:List Blk) {ns:List Int} {k:Nat} (h:k<ns.length):keptAll l snap bs (ns.take (k+1))=keepK (keptAll l snap bs (ns.take k)) snap ns[k] (getB bs ns[k]):=by
 unfold keptAll; rw [List.take_succ_eq_append_getElem h,List.foldl_append]; rfl
theorem mine_mem {ls:List Lk} {p:Prp} {x:Int} (h:x∈mineF ls p):∃ n:Nat,n<64∧x=n∧0<p.snap∧p.lo≤x∧x<p.hi∧hasL ls p.txn x false=true:=by
 unfold mineF at h
 split at h
 ·rename_i hp
  obtain ⟨h1,h2⟩:=List.mem_filter.1 h
  obtain ⟨n,hn,rfl⟩:=List.mem_map.1 h1
  simp only [Bool.and_eq_true,decide_eq_true_eq] at h2
  exact ⟨n,List.mem_range.1 hn,rfl,hp,h2.1.1,h2.1.2,h2.2⟩
 ·simp at h
theorem All2.eraseIdx {α:Type} {R:α→List Value→Prop}:∀ {xs:List α} {ys:List (List Value)} (h:All2 R xs ys) (i:Nat),All2 R (xs.eraseIdx i) (ys.eraseIdx i)
 | [],[],h,_=>h
 | x::xs,y::ys,h,0=>h.2
 | x::xs,y::ys,h,i+1=>⟨h.1,All2.eraseIdx h.2 i⟩
theorem erase_tx :∀ {ps:List Prp} {i:Nat} {t:Int} (hi:i<ps.length),ps.Pairwise (fun a b=>a.txn<b.txn)→isTx t ps[i]=true→ps.eraseIdx i=ps.filter fun p=>!isTx t p
 | p::ps,0,t,hi,hs,h=>by
  have h0:p.txn=t:=of_decide_eq_true h
  obtain ⟨h1,h2⟩:=List.pairwise_cons.1 hs
  rw [List.eraseIdx_zero,List.tail_cons,List.filter_cons,if_neg (by simp [isTx,h0])]
  exact (List.filter_eq_self.2 (fun x hx=>by have:=h1 x hx; simp [isTx]; omega)).symm
 | p::ps,i+1,t,hi,hs,h=>by
  obtain ⟨h1,h2⟩:=List.pairwise_cons.1 hs
  have hi':i<ps.length:=by simpa using hi
  have h':isTx t ps[i]=true:=by simpa using h
  have h3:=h1 ps[i] (List.getElem_mem hi')
  have h4:ps[i].txn=t:=of_decide_eq_true h'
  rw [List.eraseIdx_cons_succ,List.filter_cons,if_pos (by simp [isTx]; omega),erase_tx hi' h2 h']
theorem find_idx {α:Type} {p:α→Bool} {xs:List α} {i:Nat} (hi:i<xs.length) (h1:p xs[i]=true) (h2:∀ x∈xs.take i,p x=false):xs.find? p=some xs[i]:=find_hit hi h1 h2
abbrev prpC (b:Nat) (p:Prp) (v1 v2:Value):Hp:=pt b (.cells [.int .i64 p.txn,.int .i64 p.age,.int .i64 p.snap,.int .i64 p.lo,.int .i64 p.hi,v1,v2].toArray 57 (0,0))
theorem post_more {w0:World} {X E E' h:Hp} {b:Nat} {s:Shd} {n:Int} (hs:ShAt w0 (X+E+E') b s h):PostS w0 X b (s,⟨n,[]⟩) (.agg [.int .i64 n,.slice none 0 0].toArray) (X+E+E'+h) :=
 ⟨E+E',h,0,OwR.code _ _,by rw [← hadd_assoc]; exact hs,by simp only [yB,← hadd_assoc]⟩
theorem decide22_spec (w0:World) (X:Hp) (b:Nat) (s:Shd) (h:Hp) (o:Opn) (e:List Value) (hs:ShAt w0 X b s h) (ho:Rep.rd w0 X o e) (hz:Sized s) (hk:Okay s) (hpw:∀ p∈s.preps,p.writes.length≤1000000∧∀ w∈p.writes,w.data.length≤1000000) :
  Spec Tryz.prog w0 157 [.pointer (some ⟨b,0,none⟩),.agg e.toArray] (X+h) (PostS w0 X b (decideF s o)):=by
 obtain ⟨a1,c1,a2,c2,a3,c3,a4,c4,a5,c5,a6,c6,a7,c7,h1,h2,h3,h4,h5,h6,h7,o1,o2,o3,o4,o5,o6,o7,rfl⟩:=id hs
 obtain ⟨x1,y1,x2,y2,x3,y3,x4,y4,rfl,r1,r2,r3,r4⟩:=id ho
 have z1:=hk.locks.few
 have z1':s.locks.length≤1000000:=by omega
 have z2:=hz.dead
 have z3:=hz.preps
 have z4:=hz.kept
 have hprep:=prepared_spec w0 (X+h4) b (.int .i64 s.lo) (.int .i64 s.hi) (.int .i64 s.epoch) (.slice a1 s.blocks.length c1) (.slice a2 s.kept.length c2) (.slice a3 s.locks.length c3) (.slice a4 s.preps.length c4) (.slice a5 s.dead.length c5) (.slice a6 s.outs.length c6) (.slice a7 s.sess.length c7) s.preps o.txn o4.rd0 (by omega)
 refine zN Tryz.func157 G Tryz.ntmps157 Tryz.results157 G fun fr=>?_
 repeat (first|refine zF ?_|refine zB ?_|refine zE ?_|refine zK G G G ?_|refine zZ G G G G G ?_|refine L_ld G G G G G ?_|refine L_box G (c:=[_,_,_,_,_,_,_,_,_,_,_,_,_,_,_,_,_]) G G G (fun _=>?_)|refine L_alloc (c:=[_,_]) G G G (fun _=>?_))
 rename_i b3 b4
 refine zY G G (zQ G G G) hprep ?_
 rintro _ _ ⟨rfl,rfl⟩
 repeat (first|refine zF ?_|refine zB ?_|refine zE ?_|refine zK G G G ?_)
 rcases idxF_cases (isTx o.txn) s.preps with ⟨hi,hall⟩|⟨i,hi,hidx,hpi,hbefore⟩
 ·rw [hi]
  have e1:isPrep s o.txn=false:=List.any_eq_false.2 (fun x hx=>by rw [hall x hx]; simp)
  have e2:decide1 s o=s:=by unfold decide1; rw [List.find?_eq_none.2 (fun x hx=>by rw [hall x hx]; simp)]
  refine L_no G G (pv_geq G G) (by omega) ?_
  repeat (first|refine zF ?_|refine zB ?_|refine zE ?_|refine zK G G G ?_|refine L_skip G G ?_|refine zP ?_|refine zI G ?_)
  refine L_no G G (pv_geq G G) (by omega) ?_
  repeat (first|refine zF ?_|refine zB ?_|refine zE ?_|refine zK G G G ?_|refine zP ?_|refine zI G ?_)
  refine L_no G G (pv_geq G G) (by omega) ?_
  repeat (first|refine zK G G G ?_|refine zZ G G G G G ?_|refine L_ld G G G G G ?_)
  refine yG G G (pv_eql G G) (fun n1=>?_) (fun n1=>?_)
  ·repeat (first|refine zB ?_|refine zE ?_|refine zK G G G ?_|refine zZ G G G G G ?_|refine L_ld G G G G G ?_|refine zJ G ?_|refine L_bs (vs:=[_]) (cells:=[_]) G G G G G G (fun _=>?_))
   rename_i bt
   refine zY G G (zQ G G G) (endS_spec w0 X b bt s _ o.txn hs ⟨z1',hk.dead⟩ (by omega)) ?_
   rintro _ _ ⟨E,h2',rfl,hs',rfl⟩
   repeat (first|refine zF ?_|refine zB ?_|refine zE ?_)
   refine zY G G (zQ G G G) (code22_spec w0 0) ?_
   rintro _ _ ⟨rfl,rfl⟩
   repeat (first|refine zE ?_|refine zM ?_|refine L_stA G (vs:=[_,_]) G G G G (c':=[_,_]) G G ?_)
   rw [show decideF s o=(endS s o.txn,⟨0,[]⟩) by unfold decideF; rw [if_pos (.inr n1),e2]]
   exact ⟨[_],X+E+h2',_,⟨⟨_,rfl,zL G G G⟩,trivial⟩,PostS.code (hs'.mono G),yK.out⟩
  ·repeat (first|refine zF ?_|refine zB ?_|refine zE ?_|refine zK G G G ?_|refine zP ?_|refine zI G ?_)
   refine zY G G (zQ G G G) (code22_spec w0 0) ?_
   rintro _ _ ⟨rfl,rfl⟩
   repeat (first|refine zE ?_|refine zM ?_|refine L_stA G (vs:=[_,_]) G G G G (c':=[_,_]) G G ?_)
   rw [show decideF s o=(s,⟨0,[]⟩) by unfold decideF; rw [if_neg (fun h=>h.elim (fun h=>by rw [e1] at h; cases h) n1),e2]]
   exact ⟨[_],_,_,⟨⟨_,rfl,zL G G G⟩,trivial⟩,PostS.same hs,yK.out⟩
 ·rw [hidx]
  obtain ⟨es,w1,w2⟩:=id o4
  have hel:=w2.length
  have e1:isPrep s o.txn=true:=List.any_eq_true.2 ⟨_,List.getElem_mem hi,hpi⟩
  have herase:=erase_tx hi hk.preps hpi
  have hfind:=find_idx hi hpi hbefore
  have hpp:=hpw _ (List.getElem_mem hi)
  obtain ⟨b2,ob2,hp1,e2,⟨ap,cp,aw,cw,rfl,rp,rw'⟩,hat⟩:=o4.rd0.at hi
  refine L_yes G G (pv_geq G G) (by omega) ?_
  repeat (first|refine zK G G G ?_|refine zZ G G G G G ?_|refine L_ld G G G G G ?_)
  refine yG G G (pv_eql G G) (fun n1=>?_) (fun n1=>?_)
  ·subst hp1
   have e3:decide1 s o=unprepS (commitS s s.preps[i]) o.txn:=by unfold decide1; rw [hfind]; show unprepS (if o.value=1 then _ else _) _=_; rw [if_pos n1]
   repeat (first|refine zF ?_|refine zR ?_|refine zB ?_|refine zE ?_|refine zK G G G ?_|refine zZ G G G G G ?_|refine L_ld G G G G G ?_|refine L_len G G G ?_|refine zJ G ?_|refine L_idx G G (by omega) G G ?_|refine L_atA G (by assumption) G G G G ?_|refine L_stA G (vs:=[_,_,_,_,_,_,_]) G G G G (c':=[_,_,_,_,_,_,_]) G G ?_|refine L_alloc (c:=[_,_,_,_,_,_,_]) G G G (fun _=>?_))
   rename_i b6
   generalize hpe:s.preps[i]=p at *
   refine hold_count p.writes.length (fun k g L=>∃ (E R:Hp) (bk:List Blk) (a1':Option Addr) (c1':Nat) (h1':Hp),g=[(0,.pointer (some ⟨b,0,none⟩)),(3,.pointer (some ⟨b3,0,none⟩)),(4,.pointer (some ⟨b4,0,none⟩)),(5,.int .i64 (i:Int)),(6,.pointer (some ⟨b6,0,none⟩)),(31,.slice aw p.writes.length cw),(32,.int .i64 p.writes.length),(33,.int .i64 k)] ∧
     bk=wroteB s.blocks (p.writes.take k)∧OwL w0 (X+E) bk (.slice a1' bk.length c1') h1'∧L=X+E+(stC b (cellsS s ((.slice a1' bk.length c1')) (.slice a2 s.kept.length c2) (.slice a3 s.locks.length c3) (.slice (some ⟨b2,ob2,none⟩) s.preps.length c4) (.slice a5 s.dead.length c5) (.slice a6 s.outs.length c6) (.slice a7 s.sess.length c7))+h1'+h2+h3+h4+h5+h6+h7)+opC b3 o (.slice x1 o.parts.length y1) (.slice x2 o.reads.length y2) (.slice x3 o.writes.length y3) (.slice x4 o.data.length y4)+resC b4+prpC b6 p (.slice ap p.parts.length cp) (.slice aw p.writes.length cw)+fr+R) _
    ⟨0,_,s.blocks,a1,c1,h1,rfl,rfl,o1.mono G,by simp only [yB]; exact yK.out⟩ (by repeat (first|exact zT _|refine zO G ?_)) ?_
   rintro k g L hkk ⟨E,R,bk,a1',c1',h1',rfl,hbk,ob,rfl⟩
   repeat (first|refine zF ?_|refine zB ?_)
   refine yG G G (pv_lss G G) (fun n2=>?_) (fun n2=>?_)
   ·have hx:k<p.writes.length:=by omega
    have hsucc:=wroteB_succ s.blocks hx
    obtain ⟨bw,ow,rfl,ew,⟨ad,cd,rfl,hdat⟩,hatw⟩:=rw'.at hx
    have hset:=set19_spec w0 (X+h4+E+h1') (.slice a1' bk.length c1') (.slice ad p.writes[k].data.length cd) bk p.writes[k].block p.writes[k].data (ob.rd (L:=X+h4+E+h1') (R:=h4) (hf:=⟨by ac_rfl⟩)) (by rw [hbk]; exact wroteB_ok _ hk.blocks) (hdat.mono (show X+h4+E+h1'=X+h4+(E+h1') by ac_rfl)) (by have:=hpp.2 _ (List.getElem_mem hx); omega)
    repeat (first|refine zF ?_|refine zR ?_|refine zB ?_|refine zE ?_|refine zP ?_|refine zJ G ?_|refine L_idx G G (by omega) G G ?_|refine L_atA G (by assumption) G G G G ?_|refine L_stA G (vs:=[_,_]) G G G G (c':=[_,_]) G G ?_|refine L_alloc (c:=[_,_]) G G G (fun _=>?_))
    rename_i b8
    refine yC [10,14] [0,1,2,3,4,5,6,7,8,9,10,11,12,13,14] (by kernel_rfl) G (by kernel_rfl) (by kernel_rfl) ?_
    repeat (first|refine yI G G G G G ?_|refine yE G G G G (yA G G G) ?_|refine W_load G G G G (yF G) (zG G (zS G)) ?_)
    refine W_call G G G G (zQ G G G) hset (Kept.all _) ?_
    rintro vb2 _ ⟨E2,hb2,hob2,rfl⟩
    refine ⟨(by repeat (first|exact trivial|exact zG G (zS G)|exact zL G G G|exact zX G (by assumption) G|exact zH G (by assumption) G|exact zH G (by assumption) (by assumption)|refine ⟨?_,?_⟩)),?_⟩
    rw [hbk,← hsucc] at hob2
    obtain ⟨a8,c8,rfl⟩:=hob2.shape
    repeat (first|refine yI G G G G G ?_|refine yE G G G G (yA G G G) ?_)
    refine W_eff (W':=?wk1) G G G G (ev_store G G G G G (c':=[_,_,_,_,_,_,_,_,_,_]) G) ?wkk1 ?wrest1
    case wkk1=>repeat (first|exact Kept.nil|refine Kept.drop (by kernel_rfl) ?_|refine Kept.keep ?_)
    rintro _ _ rfl
    refine ⟨(by repeat (first|exact trivial|exact zG G (zS G)|exact zL G G G|exact zX G (by assumption) G|exact zH G (by assumption) G|exact zH G (by assumption) (by assumption)|refine ⟨?_,?_⟩)),?_⟩
    repeat (refine yJ ?_)
    repeat (first|refine zB ?_|refine zE ?_|refine zK G G G ?_|refine L_add G G (by omega) (by omega) G G ?_)
    exact ⟨hx,_,(by repeat (first|exact zT _|refine zO G ?_)),E+E2,_,_,a8,c8,hb2,rfl,rfl,hob2.mono (show X+(E+E2)=E2+(X+E) by ac_rfl),yK.out⟩
   ·have hkn:k=p.writes.length:=by omega
    subst hkn
    rw [List.take_length] at hbk
    have hbok:=wroteB_ok p.writes hk.blocks
    rw [← hbk] at hbok
    have hbs:=hbk.symm
    clear hbk
    generalize bk=bs at *
    repeat (first|refine zF ?_|refine yD ?_|refine zB ?_|refine zE ?_|refine zK G G G ?_|refine zI G ?_|refine L_ldA G (vs:=[_,_,_,_,_,_,_]) G G G G G ?_)
    refine zY G G (zQ G G G) (mine_spec w0 h3 b (.int .i64 s.lo) (.int .i64 s.hi) (.int .i64 s.epoch) (.slice a1' bs.length c1') (.slice a2 s.kept.length c2) (.slice a3 s.locks.length c3) (.slice (some ⟨b2,ob2,none⟩) s.preps.length c4) (.slice a5 s.dead.length c5) (.slice a6 s.outs.length c6) (.slice a7 s.sess.length c7) s.locks p _ ⟨X+h4,ap,cp,aw,cw,rfl,rp,rw'⟩ o3.rdh (by omega)) ?_
    rintro vm _ ⟨hm,hom,rfl⟩
    have hmem:=fun x (h:x∈mineF s.locks p)=>mine_mem h
    have hml:=mineF_len s.locks p
    obtain ⟨am,cm,rfl⟩:=hom.shape
    revert hmem hml hom
    generalize hns:mineF s.locks p=ns
    intro hmem hml hom
    repeat (first|refine zR ?_|refine zE ?_|refine zK G G G ?_|refine L_len G G G ?_)
    refine hold_count ns.length (fun k g L=>∃ (E R:Hp) (kk:List Kpt) (a2':Option Addr) (c2':Nat) (h2':Hp),g=[(0,.pointer (some ⟨b,0,none⟩)),(3,.pointer (some ⟨b3,0,none⟩)),(4,.pointer (some ⟨b4,0,none⟩)),(5,.int .i64 (i:Int)),(6,.pointer (some ⟨b6,0,none⟩)),(54,.slice am ns.length cm),(55,.int .i64 ns.length),(56,.int .i64 k)] ∧
      OwL w0 (X+E) bs (.slice a1' bs.length c1') h1'∧kk=keptAll s.kept p.snap bs (ns.take k)∧OwL w0 (X+E) kk (.slice a2' kk.length c2') h2'∧L=X+E+(stC b (cellsS s (.slice a1' bs.length c1') ((.slice a2' kk.length c2')) (.slice a3 s.locks.length c3) (.slice (some ⟨b2,ob2,none⟩) s.preps.length c4) (.slice a5 s.dead.length c5) (.slice a6 s.outs.length c6) (.slice a7 s.sess.length c7))+h1'+h2'+h3+h4+h5+h6+h7)+hm+opC b3 o (.slice x1 o.parts.length y1) (.slice x2 o.reads.length y2) (.slice x3 o.writes.length y3) (.slice x4 o.data.length y4)+resC b4+prpC b6 p (.slice ap p.parts.length cp) (.slice aw p.writes.length cw)+fr+R) _
     ⟨E,_,s.kept,a2,c2,h2,rfl,ob,rfl,o2.mono G,yK.out⟩ (by repeat (first|exact zT _|refine zO G ?_)) ?_
    clear ob R E
    rintro k g L hkk ⟨E,R,kk,a2',c2',h2',rfl,ob,hkk2,ok,rfl⟩
    repeat (first|refine zF ?_|refine zB ?_)
    refine yG G G (pv_lss G G) (fun n3=>?_) (fun n3=>?_)
    ·have hx:k<ns.length:=by omega
     obtain ⟨n,hn,en,_⟩:=hmem _ (List.getElem_mem hx)
     have hsucc:=keptAll_succ s.kept p.snap bs hx
     have hlen:=keptAll_len bs p.snap (ns.take k) s.kept
     rw [List.length_take] at hlen
     obtain ⟨bm,om,rfl,em,rfl,hatm⟩:=hom.rdh.at hx
     rw [en] at hsucc hatm
     have hkeep:=keep19_spec w0 (X+E+h1'+h2') (.slice a2' kk.length c2') (.slice a1' bs.length c1') kk bs p.snap n hn (ok.rd (L:=X+E+h1'+h2') (R:=h1') (hf:=⟨by ac_rfl⟩)) (by rw [hkk2]; exact keptAll_ok hbok _ _ hk.kept) (by rw [hkk2]; omega) (ob.rd (L:=X+E+h1'+h2') (R:=h2') (hf:=⟨rfl⟩)) hbok
     repeat (first|refine zF ?_|refine zR ?_|refine zB ?_|refine zE ?_|refine zK G G G ?_|refine zP ?_|refine zJ G ?_|refine L_idx G G (by omega) G G ?_|refine L_at G (by assumption) G G G G ?_)
     refine yC [17,21] [0,1,2,3,4,5,6,7,8,9,10,11,12,13,14,15,16,17,18,19,20,21] (by kernel_rfl) G (by kernel_rfl) (by kernel_rfl) ?_
     repeat (first|refine yI G G G G G ?_|refine yE G G G G (yA G G G) ?_|refine W_load G G G G (yF G) (zG G (zS G)) ?_|refine yE G G G G (pv_add G G (by omega) (by omega)) ?_|refine yE G G G G (pv_build (vs:=[_,_]) (cells:=[_,_]) G G) ?_)
     refine W_call G G G G (zQ G G G) hkeep (Kept.all _) ?_
     rintro vb2 _ ⟨E2,hb2,hob2,rfl⟩
     refine ⟨(by repeat (first|exact trivial|exact zG G (zS G)|exact zL G G G|exact zX G (by assumption) G|exact zH G (by assumption) G|exact zH G (by assumption) (by assumption)|refine ⟨?_,?_⟩)),?_⟩
     rw [hkk2,← hsucc] at hob2
     obtain ⟨a8,c8,rfl⟩:=hob2.shape
     repeat (first|refine yI G G G G G ?_|refine yE G G G G (yA G G G) ?_)
     refine W_eff (W':=?wk2) G G G G (ev_store G G G G G (c':=[_,_,_,_,_,_,_,_,_,_]) G) ?wkk2 ?wrest2
     case wkk2=>repeat (first|exact Kept.nil|refine Kept.drop (by kernel_rfl) ?_|refine Kept.keep ?_)
     rintro _ _ rfl
     refine ⟨(by repeat (first|exact trivial|exact zG G (zS G)|exact zL G G G|exact zX G (by assumption) G|exact zH G (by assumption) G|exact zH G (by assumption) (by assumption)|refine ⟨?_,?_⟩)),?_⟩
     repeat (refine yJ ?_)
     repeat (first|refine zB ?_|refine zE ?_|refine zK G G G ?_|refine L_add G G (by omega) (by omega) G G ?_)
     exact ⟨hx,_,(by repeat (first|exact zT _|refine zO G ?_)),E+E2,_,_,a8,c8,hb2,rfl,ob.mono (show X+(E+E2)=X+E+E2 by ac_rfl),rfl,hob2.mono (show X+(E+E2)=E2+(X+E) by ac_rfl),yK.out⟩
    ·have hkn:k=ns.length:=by omega
     subst hkn
     rw [List.take_length] at hkk2
     have hks:=hkk2.symm
     clear hkk2
     generalize kk=ks at *
     repeat (first|refine zF ?_|refine yD ?_|refine zB ?_|refine zE ?_|refine zK G G G ?_|refine zI G ?_)
     refine L_yes G G (pv_geq G G) (by omega) ?_
     repeat (first|refine zB ?_|refine zE ?_|refine zK G G G ?_|refine zZ G G G G G ?_|refine L_ld G G G G G ?_|refine zJ G ?_|refine L_add G G (by omega) (by omega) G G ?_)
     refine zY G G (zQ G G G) (deleteAtPrp_spec w0 es _ h4 i w1 (by omega) w2.ones (by omega)) ?_
     rintro vp2 h4' hrow
     have o4':OwL w0 (X+E) (s.preps.filter fun p=>!isTx o.txn p) vp2 h4':=by
      have:=(⟨_,hrow,w2.eraseIdx i⟩:OwL w0 X _ vp2 h4')
      rw [herase] at this
      exact OwL.mono G this
     obtain ⟨a4',c4',rfl⟩:=o4'.shape
     repeat (first|refine zF ?_|refine zB ?_|refine zE ?_|refine zK G G G ?_|refine zZ G G G G G ?_|refine L_st G G G (c':=[_,_,_,_,_,_,_,_,_,_]) G G G G ?_)
     refine L_yes G G (pv_geq G G) (by omega) ?_
     repeat (first|refine zB ?_|refine zE ?_|refine zK G G G ?_|refine zZ G G G G G ?_|refine L_ld G G G G G ?_|refine L_skip G G ?_|refine zJ G ?_|refine L_bs (vs:=[_]) (cells:=[_]) G G G G G G (fun _=>?_))
     rename_i bt
     have hs2:ShAt w0 (X+E) b (unprepS { s with blocks:=bs,kept:=ks } o.txn) (stC b (cellsS s (.slice a1' (bs).length c1') (.slice a2' (ks).length c2') (.slice a3 s.locks.length c3) ((.slice a4' (s.preps.filter fun p=>!isTx o.txn p).length c4')) (.slice a5 s.dead.length c5) (.slice a6 s.outs.length c6) (.slice a7 s.sess.length c7))+h1'+h2'+h3+h4'+h5+h6+h7) :=
      ⟨a1',c1',a2',c2',a3,c3,a4',c4',a5,c5,a6,c6,a7,c7,h1',h2',h3,h4',h5,h6,h7,ob,ok,o3,o4',o5,o6.mono G,o7.mono G,rfl⟩
     refine zY G G (zQ G G G) (endS_spec w0 (X+E) b bt _ _ o.txn hs2 ⟨z1',hk.dead⟩ (show s.dead.length≤1000000 by omega)) ?_
     rintro _ _ ⟨E',h2',rfl,hs',rfl⟩
     repeat (first|refine zF ?_|refine zB ?_|refine zE ?_)
     refine zY G G (zQ G G G) (code22_spec w0 0) ?_
     rintro _ _ ⟨rfl,rfl⟩
     repeat (first|refine zE ?_|refine zM ?_|refine L_stA G (vs:=[_,_]) G G G G (c':=[_,_]) G G ?_)
     rw [show decideF s o=(endS (unprepS { s with blocks:=bs,kept:=ks } o.txn) o.txn,⟨0,[]⟩) by unfold decideF; rw [if_pos (.inl e1),e3]; unfold commitS; rw [hbs,hns,hks]]
     exact ⟨[_],X+E+E'+h2',_,⟨⟨_,rfl,zL G G G⟩,trivial⟩,post_more (hs'.mono G),yK.out⟩
  ·repeat (first|refine zF ?_|refine zB ?_|refine zE ?_|refine zK G G G ?_|refine zP ?_|refine zI G ?_)
   have ob:=o1
   have ok:=o2
   refine L_yes G G (pv_geq G G) (by omega) ?_
   repeat (first|refine zB ?_|refine zE ?_|refine zK G G G ?_|refine zZ G G G G G ?_|refine L_ld G G G G G ?_|refine zJ G ?_|refine L_add G G (by omega) (by omega) G G ?_)
   refine zY G G (zQ G G G) (deleteAtPrp_spec w0 es _ h4 i w1 (by omega) w2.ones (by omega)) ?_
   rintro vp2 h4' hrow
   have o4':OwL w0 X (s.preps.filter fun p=>!isTx o.txn p) vp2 h4':=by
    have:=(⟨_,hrow,w2.eraseIdx i⟩:OwL w0 X _ vp2 h4')
    rw [herase] at this
    exact this
   obtain ⟨a4',c4',rfl⟩:=o4'.shape
   repeat (first|refine zF ?_|refine zB ?_|refine zE ?_|refine zK G G G ?_|refine zZ G G G G G ?_|refine L_st G G G (c':=[_,_,_,_,_,_,_,_,_,_]) G G G G ?_)
   refine L_yes G G (pv_geq G G) (by omega) ?_
   repeat (first|refine zB ?_|refine zE ?_|refine zK G G G ?_|refine zZ G G G G G ?_|refine L_ld G G G G G ?_|refine L_skip G G ?_|refine zJ G ?_|refine L_bs (vs:=[_]) (cells:=[_]) G G G G G G (fun _=>?_))
   rename_i bt
   have hs2:ShAt w0 X b (unprepS { s with blocks:=s.blocks,kept:=s.kept } o.txn) (stC b (cellsS s (.slice a1 (s.blocks).length c1) (.slice a2 (s.kept).length c2) (.slice a3 s.locks.length c3) ((.slice a4' (s.preps.filter fun p=>!isTx o.txn p).length c4')) (.slice a5 s.dead.length c5) (.slice a6 s.outs.length c6) (.slice a7 s.sess.length c7))+h1+h2+h3+h4'+h5+h6+h7) :=
    ⟨a1,c1,a2,c2,a3,c3,a4',c4',a5,c5,a6,c6,a7,c7,h1,h2,h3,h4',h5,h6,h7,ob,ok,o3,o4',o5,o6,o7,rfl⟩
   refine zY G G (zQ G G G) (endS_spec w0 X b bt _ _ o.txn hs2 ⟨z1',hk.dead⟩ (show s.dead.length≤1000000 by omega)) ?_
   rintro _ _ ⟨E',h2',rfl,hs',rfl⟩
   repeat (first|refine zF ?_|refine zB ?_|refine zE ?_)
   refine zY G G (zQ G G G) (code22_spec w0 0) ?_
   rintro _ _ ⟨rfl,rfl⟩
   repeat (first|refine zE ?_|refine zM ?_|refine L_stA G (vs:=[_,_]) G G G G (c':=[_,_]) G G ?_)
   rw [show decideF s o=(endS (unprepS { s with blocks:=s.blocks,kept:=s.kept } o.txn) o.txn,⟨0,[]⟩) by unfold decideF decide1; rw [if_pos (.inl e1),hfind]; show (endS (unprepS (if o.value=1 then _ else _) _) _,_)=_; rw [if_neg n1]]
   exact ⟨[_],X+E'+h2',_,⟨⟨_,rfl,zL G G G⟩,trivial⟩,PostS.code (hs'.mono G),yK.out⟩
end Sl
end Go.Proofs.YtpkealohodeifaaGreat
namespace Go.Proofs.YtpkealohodeifaaGreat
open Go Go.RowKit
namespace Sl
set_option maxHeartbeats 16000000
set_option maxRecDepth 4000
set_option synthInstance.maxHeartbeats 400000
set_option synthInstance.maxSize 100000
attribute [local irreducible] Hold HoldL HoldW
def mayF (lo hi no:Int) (n:Nat):Bool:=inS lo hi no&&(inS 0 64 no&&decide ((n:Int)=4))
theorem mayF_iff {lo hi no:Int} {n:Nat}:mayF lo hi no n=true↔inS lo hi no=true∧0≤no∧no<64∧n=4:=by
 unfold mayF inS
 simp only [Bool.and_eq_true,decide_eq_true_eq]
 omega
theorem may_spec (w0:World) (lo hi no:Int) (a:Option Addr) (n c:Nat):Spec Tryz.prog w0 251 [.int .i64 no,.slice a n c,.agg [.int .i64 lo,.int .i64 hi].toArray] 0 (fun r h'=>r=.bool (mayF lo hi no n)∧0=h'):=by
 unfold mayF
 refine zN Tryz.func251 G Tryz.ntmps251 Tryz.results251 G fun fr=>?_
 repeat (first|refine zF ?_|refine zB ?_|refine zE ?_|refine zK G G G ?_|refine L_ldA G (vs:=[_,_]) G G G G G ?_|refine L_box G (c:=[_,_]) G G G (fun _=>?_))
 refine zY G G (zQ G G G) (inSpan22_spec w0 lo hi no) ?_
 rintro _ _ ⟨rfl,rfl⟩
 cases h1:inS lo hi no
 ·repeat (first|refine zE ?_|refine zK G G G ?_|refine L_skip G G ?_|refine zM ?_)
  exact ⟨[_],0,_,⟨rfl,trivial⟩,⟨rfl,rfl⟩,yK.out⟩
 ·repeat (first|refine zK G G G ?_|refine L_build (vs:=[_]) (cells:=[_,_]) G G G G ?_)
  refine zY G G (zQ G G G) (inSpan22_spec w0 0 64 no) ?_
  rintro _ _ ⟨rfl,rfl⟩
  cases h2:inS 0 64 no
  ·repeat (first|refine zE ?_|refine zK G G G ?_|refine L_skip G G ?_|refine zM ?_)
   exact ⟨[_],0,_,⟨rfl,trivial⟩,⟨rfl,rfl⟩,yK.out⟩
  ·repeat (first|refine zK G G G ?_|refine L_len G G G ?_)
   refine yH G G (pv_eql G G) ?_
   repeat (first|refine zE ?_|refine zK G G G ?_|refine zM ?_)
   exact ⟨[_],0,_,⟨rfl,trivial⟩,⟨rfl,rfl⟩,yK.out⟩
def orF (xs:List Int):Int:=match xs.find? (fun x=>decide (x≠0)) with|some x=>x|none=>0
theorem cmpOr_spec (w0:World) (X:Hp) (v:Value) (xs:List Int) (hv:RdL w0 X v xs) (hl:xs.length≤1000000000) :
  Spec Tryz.prog w0 253 [v] X (fun r h'=>r=.int .i64 (orF xs)∧X=h'):=by
 obtain ⟨a,c,rfl⟩:=hv.shape
 refine zN Tryz.func253 G Tryz.ntmps253 Tryz.results253 G fun fr=>?_
 repeat (first|refine zF ?_|refine zR ?_|refine zB ?_|refine zE ?_|refine zK G G G ?_|refine L_len G G G ?_)
 refine hold_count xs.length (fun k g L=>∃ (R:Hp),g=[(3,.int .i64 0),(6,.slice a xs.length c),(7,.int .i64 xs.length),(8,.int .i64 k)]∧(∀ x∈xs.take k,decide (x≠0)=false)∧L=X+fr+R) _ ⟨0,rfl,by simp,(yB _).symm⟩ (by repeat (first|exact zT _|refine zO G ?_)) ?_
 rintro k g L hk ⟨R,rfl,hpre,rfl⟩
 repeat (first|refine zF ?_|refine zB ?_)
 refine yG G G (pv_lss G G) (fun h2=>?_) (fun h2=>?_)
 ·have hx:k<xs.length:=by omega
  obtain ⟨b2,o2,rfl,e,rfl,hat⟩:=hv.at hx
  repeat (first|refine zF ?_|refine zR ?_|refine zB ?_|refine zE ?_|refine zK G G G ?_|refine zP ?_|refine zJ G ?_|refine L_idx G G (by omega) G G ?_|refine L_at G (by assumption) G G G G ?_)
  refine yG G G (pv_neq G G) (fun h3=>?_) (fun h3=>?_)
  ·repeat (first|refine zF ?_|refine zB ?_|refine zE ?_|refine zK G G G ?_|refine zM ?_|refine zJ G ?_)
   exact ⟨[_],X,_,⟨rfl,trivial⟩,⟨by unfold orF; rw [find_hit hx (decide_eq_true h3) hpre]; rfl,rfl⟩,yK.out⟩
  ·repeat (first|refine zB ?_|refine zE ?_|refine zK G G G ?_|refine zP ?_|refine zI G ?_|refine L_add G G (by omega) (by omega) G G ?_)
   exact ⟨hx,_,(by repeat (first|exact zT _|refine zO G ?_)),_,rfl,all_take_succ hx hpre (decide_eq_false h3),yK.out⟩
 ·rw [List.take_of_length_le (by omega)] at hpre
  repeat (first|refine zF ?_|refine yD ?_|refine zB ?_|refine zE ?_|refine zK G G G ?_|refine zM ?_|refine zI G ?_)
  exact ⟨[_],X,_,⟨rfl,trivial⟩,⟨by unfold orF; rw [List.find?_eq_none.2 (fun x hx=>by rw [hpre x hx]; simp)]; rfl,rfl⟩,yK.out⟩
def ordK (x y:Kpt):Int:=orF [cmpI x.snap y.snap,cmpI x.no y.no]
theorem ordK_neg {x y:Kpt}:ordK x y<0↔ltK x y:=by
 unfold ordK orF ltK ltKey cmpI
 by_cases h1:x.snap<y.snap
 ·simp [h1]
 ·by_cases h2:y.snap<x.snap
  ·simp [h1,h2]; omega
  ·have h3:x.snap=y.snap:=by omega
   by_cases h4:x.no<y.no
   ·simp [h3,h4]
   ·by_cases h5:y.no<x.no
    ·simp [h3,h4,h5]
    ·simp [h3,h4,h5]
theorem orderKept_spec (w0:World) (x y:Kpt) (e f:List Value) (Y Z:Hp) (he:Rep.rd w0 Y x e) (hf:Rep.rd w0 Z y f) :
  Spec Tryz.prog w0 219 [.agg e.toArray,.agg f.toArray] 0 (fun r h'=>r=.int .i64 (ordK x y)∧0=h'):=by
 obtain ⟨a1,c1,rfl,_⟩:=he
 obtain ⟨a2,c2,rfl,_⟩:=hf
 refine zN Tryz.func219 G Tryz.ntmps219 Tryz.results219 G fun fr=>?_
 repeat (first|refine zF ?_|refine zB ?_|refine zE ?_|refine zK G G G ?_|refine L_box G (c:=[_,_,_]) G G G (fun _=>?_))
 refine yC [4,9,10,11] [0,1,2,3,5,6,7,8,4,9,10,11,12] (by kernel_rfl) G (by kernel_rfl) (by kernel_rfl) ?_
 repeat (first|refine yE G G G G (yA G G G) ?_|refine W_load G G G G (yF G) (zG G (zS G)) ?_)
 refine W_call G G G G (zQ G G G) (compare_spec w0 x.snap y.snap) (Kept.all _) ?_
 rintro _ _ ⟨rfl,rfl⟩
 refine ⟨(by repeat (first|exact trivial|exact zG G (zS G)|exact zL G G G|exact zX G (by assumption) G|exact zH G (by assumption) G|exact zH G (by assumption) (by assumption)|refine ⟨?_,?_⟩)),?_⟩
 skip
 refine W_call G G G G (zQ G G G) (compare_spec w0 x.no y.no) (Kept.all _) ?_
 rintro _ _ ⟨rfl,rfl⟩
 refine ⟨(by repeat (first|exact trivial|exact zG G (zS G)|exact zL G G G|exact zX G (by assumption) G|exact zH G (by assumption) G|exact zH G (by assumption) (by assumption)|refine ⟨?_,?_⟩)),?_⟩
 skip
 refine W_eff G G G G (ev_buildSlice (vs:=[_,_]) (cells:=[_,_]) G G G G) (Kept.all _) ?_
 rintro _ _ ⟨b5,rfl,rfl⟩
 refine ⟨(by repeat (first|exact trivial|exact zG G (zS G)|exact zL G G G|exact zX G (by assumption) G|exact zH G (by assumption) G|exact zH G (by assumption) (by assumption)|refine ⟨?_,?_⟩)),?_⟩
 have hor:=cmpOr_spec w0 (intsAt b5 [cmpI x.snap y.snap,cmpI x.no y.no]) (.slice (some ⟨b5,0,none⟩) 2 2) [cmpI x.snap y.snap,cmpI x.no y.no] (ints_block (b:=b5) [cmpI x.snap y.snap,cmpI x.no y.no] (by simp)) (by simp)
 change Spec _ _ _ _ (pt b5 (.cells [.int .i64 (cmpI x.snap y.snap),.int .i64 (cmpI x.no y.no)].toArray 3 (0,0))) _ at hor
 refine W_call G G G G (zQ G G G) hor (Kept.all _) ?_
 rintro _ _ ⟨rfl,rfl⟩
 refine ⟨(by repeat (first|exact trivial|exact zG G (zS G)|exact zL G G G|exact zX G (by assumption) G|exact zH G (by assumption) G|exact zH G (by assumption) (by assumption)|refine ⟨?_,?_⟩)),?_⟩
 repeat (first|refine yJ ?_|refine yI G G G G G ?_)
 repeat (refine zM ?_)
 exact ⟨[_],0,_,⟨rfl,trivial⟩,⟨rfl,rfl⟩,yK.out⟩
theorem RdL.at2 {α:Type} [ρ:Rep α] {w0:World} {L:Hp} {ad:Option Addr} {n c:Nat} {xs:List α} (h:RdL w0 L (.slice ad n c) xs) {i j:Nat} (hi:i<xs.length) (hj:j<xs.length) :
  ∃ b o,ad=some ⟨b,o,none⟩∧(∃ e,ρ.rd w0 L xs[i] e∧At w0 L b (o+i*ρ.size) e)∧∃ e,ρ.rd w0 L xs[j] e∧At w0 L b (o+j*ρ.size) e:=by
 obtain ⟨b,o,rfl,e,h1,h2⟩:=h.at hi
 obtain ⟨b',o',he,e',h3,h4⟩:=h.at hj
 obtain ⟨rfl,rfl⟩:b=b'∧o=o':=by simpa using he
 exact ⟨b,o,rfl,⟨e,h1,h2⟩,e',h3,h4⟩
section
variable {α:Type} {r:α→α→Prop}
theorem pw_take (tr:∀ a b c,r a b→r b c→r a c) {l:List α} {k:Nat} (hk:k<l.length) (h:(l.take k).Pairwise r) (h2:∀ h:0<k,r (l[k - 1]'(by omega)) l[k]):(l.take (k+1)).Pairwise r:=by
 rw [List.take_succ_eq_append_getElem hk,List.pairwise_append]
 refine ⟨h,List.pairwise_singleton _ _,?_⟩
 intro x hx y hy
 rw [List.mem_singleton] at hy; subst hy
 obtain ⟨i,hi,rfl⟩:=List.getElem_of_mem hx
 rw [List.length_take] at hi
 rw [List.getElem_take]
 rcases Nat.lt_or_ge i (k - 1) with h3|h3
 ·have:=(List.pairwise_iff_getElem.1 h) i (k - 1) (by rw [List.length_take]; omega) (by rw [List.length_take]; omega) h3
  rw [List.getElem_take,List.getElem_take] at this
  exact tr _ _ _ this (h2 (by omega))
 ·have e:i=k - 1:=by omega
  subst e
  exact h2 (by omega)
theorem pw_not {l:List α} {k:Nat} (hk:k<l.length) (h0:0<k) (h:¬ r (l[k - 1]'(by omega)) l[k]):¬ l.Pairwise r:=fun hp=>h ((List.pairwise_iff_getElem.1 hp) (k - 1) k (by omega) hk (by omega))
end
def okB1 (lo hi:Int) (x:Blk):Prop:=inS lo hi x.no=true∧0≤x.no∧x.no<64∧x.data.length=4∧x.data≠zeros4
instance (lo hi:Int) (x:Blk):Decidable (okB1 lo hi x):=by unfold okB1; infer_instance
def okK1 (lo hi:Int) (x:Kpt):Prop:=inS lo hi x.no=true∧0≤x.no∧x.no<64∧x.data.length=4
instance (lo hi:Int) (x:Kpt):Decidable (okK1 lo hi x):=by unfold okK1; infer_instance
theorem partOk_iff {lo hi:Int} {l:List Blk} {k:List Kpt}:PartOk lo hi l k↔((∀ x∈l,okB1 lo hi x)∧l.Pairwise fun a b=>a.no<b.no)∧((∀ x∈k,okK1 lo hi x)∧k.Pairwise ltK):=by
 unfold PartOk OkB OkK
 constructor
 ·rintro ⟨⟨h1,h2⟩,h3,⟨h4,h5⟩,h6⟩
  exact ⟨⟨fun x hx=>⟨h3 x hx,h1 x hx⟩,h2⟩,fun x hx=>⟨(h6 x hx).2,(h6 x hx).1.1,(h6 x hx).1.2,h4 x hx⟩,h5⟩
 ·rintro ⟨⟨h1,h2⟩,h3,h4⟩
  exact ⟨⟨fun x hx=>(h1 x hx).2,h2⟩,fun x hx=>(h1 x hx).1,⟨fun x hx=>(h3 x hx).2.2.2,h4⟩,fun x hx=>⟨⟨(h3 x hx).2.1,(h3 x hx).2.2.1⟩,(h3 x hx).1⟩⟩
theorem setB_nil {no:Int} {b:List Bt} (h0:0≤no) (h1:no<64) (hl:b.length=4):((setB [] no b).length:Int)=0↔b=zeros4:=by
 unfold setB newB
 rw [if_pos ⟨h0,h1,hl⟩]
 by_cases h:b=zeros4<;>simp [h]
theorem okB_nil :OkB []:=⟨by simp,by simp⟩
def badB (lo hi:Int) (l:List Blk) (k:Nat) (hk:k<l.length):Prop:=¬ (okB1 lo hi l[k]∧∀ h:0<k,(l[k - 1]'(by omega)).no<l[k].no)
instance (lo hi:Int) (l:List Blk) (k:Nat) (hk:k<l.length):Decidable (badB lo hi l k hk):=by unfold badB; infer_instance
def badK (lo hi:Int) (l:List Kpt) (k:Nat) (hk:k<l.length):Prop:=¬ (okK1 lo hi l[k]∧∀ h:0<k,ltK (l[k - 1]'(by omega)) l[k])
instance (lo hi:Int) (l:List Kpt) (k:Nat) (hk:k<l.length):Decidable (badK lo hi l k hk):=by unfold badK; infer_instance
theorem listV_num {α:Type} (one:RS × Bool→α × (RS × Bool)) (least:Nat) (s:RS × Bool):(listV one least s).1.length≤s.1.left.length:=by
 unfold listV
 split
 ·rename_i h
  rw [manyS_length]
  have h1:=takeS_len s.1 8
  have h2:(intS s.1).left.length / least≤(intS s.1).left.length:=Nat.div_le_self _ _
  have h3:(intS s.1).left.length≤s.1.left.length:=h1
  omega
 ·simp
theorem partOf_spec (w0:World) (X:Hp) (v:Value) (d:List Bt) (lo hi:Int) (hv:RdL w0 X v d) (hl:d.length≤1000000) :
  Spec Tryz.prog w0 216 [v,.agg [.int .i64 lo,.int .i64 hi].toArray] X (fun r h'=>(partF d lo hi=none∧r=.tuple #[.slice none 0 0,.slice none 0 0,.bool false]∧X=h') ∨
   ∃ (l:List Blk) (k:List Kpt) (vl vk:Value) (D h1 h2:Hp),partF d lo hi=some (l,k)∧r=.tuple #[vl,vk,.bool true]∧OwL w0 D l vl h1∧OwL w0 D k vk h2∧X+(D+h1+h2)=h'):=by
 have hread:=read02_spec w0 X v d hv (by omega)
 have lB:(partB d).2.1.left.length≤d.length:=listV_len oneBlk_len 16 _
 have lK:(partK d).2.1.left.length≤(partB d).2.1.left.length:=listV_len oneKpt_len 24 _
 have nB:(partB d).1.length≤d.length:=listV_num oneBlk 16 _
 have nK:(partK d).1.length≤(partB d).2.1.left.length:=listV_num oneKpt 24 _
 have hpf:partF d lo hi=if endV (partK d).2.1=0∧PartOk lo hi (partB d).1 (partK d).1 then some ((partB d).1,(partK d).1) else none:=rfl
 have hodd:(partB d).2.2=false:=listV_odd (f:=oneBlk) (fun s=>rfl) 16 _
 obtain ⟨a,c,rfl⟩:=hv.shape
 refine zN Tryz.func216 G Tryz.ntmps216 Tryz.results216 G fun fr=>?_
 repeat (first|refine zF ?_|refine zB ?_|refine zE ?_|refine zK G G G ?_|refine L_box G (c:=[_,_]) G G G (fun _=>?_))
 rename_i b3
 refine zY G G (zQ G G G) hread ?_
 rintro _ _ ⟨p,D,h0,rfl,hr0,rfl⟩
 repeat (first|refine zF ?_|refine zB ?_|refine zE ?_|refine zK G G G ?_)
 refine zY G G (zQ G G G) (getBlocks_spec w0 D p (⟨d,false⟩,false) h0 hr0 (by show d.length≤_; omega)) ?_
 rintro vb _ ⟨E1,h1,hb,ob,hr1,rfl⟩
 change OwL w0 (D+E1) (partB d).1 vb hb at ob
 change RdrAt w0 D p (partB d).2.1 h1 at hr1
 repeat (refine zK G G G ?_)
 refine zY G G (zQ G G G) (getKept_spec w0 D p ((partB d).2.1,false) h1 hr1 (by show (partB d).2.1.left.length≤_; omega)) ?_
 rintro vk _ ⟨E2,h2,hk,ok,hr2,rfl⟩
 change OwL w0 (D+E2) (partK d).1 vk hk at ok
 change RdrAt w0 D p (partK d).2.1 h2 at hr2
 repeat (first|refine zF ?_|refine zB ?_|refine zE ?_|refine zK G G G ?_)
 refine zY G G (zQ G G G) (end02_spec w0 D p (partK d).2.1 h2 hr2) ?_
 rintro _ _ ⟨rfl,rfl⟩
 generalize partB d=pB at *
 generalize hpk:partK d=pK at *
 obtain ⟨l,sB⟩:=pB
 obtain ⟨kk,sK⟩:=pK
 simp only at *
 have lenl:l.length≤1000000:=by omega
 have lenk:kk.length≤1000000:=by omega
 obtain ⟨ab,cb,rfl⟩:=ob.shape
 obtain ⟨ak,ck,rfl⟩:=ok.shape
 refine yG G G (pv_neq G G) (fun n1=>?_) (fun n1=>?_)
 ·repeat (first|refine zF ?_|refine zB ?_|refine zE ?_|refine zK G G G ?_|refine zM ?_|refine zJ G ?_)
  exact ⟨[_,_,_],X,_,⟨rfl,rfl,rfl,trivial⟩,.inl ⟨by rw [hpf,if_neg (fun h=>n1 h.1)],rfl,rfl⟩,yK.out⟩
 ·have n1':endV sK.1=0:=Classical.byContradiction n1
  repeat (first|refine zF ?_|refine zR ?_|refine zB ?_|refine zE ?_|refine zK G G G ?_|refine L_len G G G ?_|refine zP ?_|refine zI G ?_)
  refine hold_count l.length (fun k g L=>∃ (R:Hp),g=[(3,.pointer (some ⟨b3,0,none⟩)),(8,.slice ab l.length cb),(9,.slice ak kk.length ck),(23,.slice ab l.length cb),(24,.int .i64 l.length),(25,.int .i64 k)]∧(∀ x∈l.take k,okB1 lo hi x)∧((l.take k).Pairwise fun a b=>a.no<b.no) ∧
    L=X+D+E1+hb+E2+hk+spanC b3 lo hi+fr+R) _ ⟨_,rfl,by simp,by simp,yK.out⟩ (by repeat (first|exact zT _|refine zO G ?_)) ?_
  rintro k g L hkk ⟨R,rfl,g1,g2,rfl⟩
  repeat (first|refine zF ?_|refine zB ?_)
  refine yG G G (pv_lss G G) (fun n2=>?_) (fun n2=>?_)
  ·have hx:k<l.length:=by omega
   obtain ⟨bw,ow,rfl,⟨ew,⟨ad,cd,rfl,hdat⟩,hat⟩,ew2,⟨ad2,cd2,rfl,_⟩,hat2⟩:=ob.rd0.at2 hx (show k - 1<l.length by omega)
   repeat (first|refine zF ?_|refine zR ?_|refine zB ?_|refine zE ?_|refine zK G G G ?_|refine zP ?_|refine zJ G ?_|refine L_idx G G (by omega) G G ?_|refine L_atA G (by assumption) G G G G ?_|refine L_stA G (vs:=[_,_]) G G G G (c':=[_,_]) G G ?_|refine L_alloc (c:=[_,_]) G G G (fun _=>?_))
   rename_i b11
   refine hold_join (fun g' L'=>∃ (R:Hp),Sub g' [(3,.pointer (some ⟨b3,0,none⟩)),(8,.slice (some ⟨bw,ow,none⟩) l.length cb),(9,.slice ak kk.length ck),(23,.slice (some ⟨bw,ow,none⟩) l.length cb),(24,.int .i64 l.length),(25,.int .i64 k),(60,.bool (decide (badB lo hi l k hx)))] ∧
    L'=X+D+E1+hb+E2+hk+spanC b3 lo hi+fr+R) ?_ ?_
   ·refine yC [5,27] [0,1,2,3,4,5,6,7,8,9,10,11,12,13,14,15,16,17,18,19,20,21,22,23,24,25,26,27,28,29,30] (by kernel_rfl) G (by kernel_rfl) (by kernel_rfl) ?_
    repeat (first|refine yE G G G G (yA G G G) ?_|refine W_load G G G G (yF G) (zG G (zS G)) ?_|refine W_load G G G G (yF G) (zL (vs:=[_,_]) G G G) ?_)
    refine W_call G G G G (zQ G G G) (may_spec w0 lo hi l[k].no ad l[k].data.length cd) (Kept.all _) ?_
    rintro _ _ ⟨rfl,rfl⟩
    refine ⟨(by repeat (first|exact trivial|exact zG G (zS G)|exact zL G G G|exact zX G (by assumption) G|exact zH G (by assumption) G|exact zH G (by assumption) (by assumption)|refine ⟨?_,?_⟩)),?_⟩
    cases hm:mayF lo hi l[k].no l[k].data.length
    ·repeat (first|refine yJ ?_|refine yI G G G G G ?_|refine W_skip G G G G ?_|refine W_not G G G G ?_)
     rw [decide_eq_true (show badB lo hi l k hx from fun h=>by rw [mayF_iff.2 ⟨h.1.1,h.1.2.1,h.1.2.2.1,h.1.2.2.2.1⟩] at hm; cases hm)]
     exact ⟨_,(by repeat (first|exact zT _|refine zO G ?_)),yK.out⟩
    ·obtain ⟨m1,m2,m3,m4⟩:=mayF_iff.1 hm
     repeat (refine yI G G G G G ?_)
     refine W_dec G G G G (pv_gtr G G) (fun n3=>?_) (fun n3=>?_)
     ·repeat (first|refine yI G G G G G ?_|refine yE G G G G (yA G G G) ?_|refine W_load G G G G (yF G) (zG G (zS G)) ?_)
      refine yE G G G G (pv_sub G G (by omega) (by omega)) ?_
      rw [show ((k:Int) - 1)=((k - 1:Nat):Int) by omega]
      repeat (first|refine yE G G G G (yA G G G) ?_|refine W_idx G G G (by omega) G G G ?_|refine W_atf G G (by assumption) G G G G G ?_)
      refine W_dec G G G G (pv_leq G G) (fun n4=>?_) (fun n4=>?_)
      ·repeat (first|refine yJ ?_|refine yI G G G G G ?_|refine W_skip G G G G ?_|refine W_not G G G G ?_)
       rw [decide_eq_true (show badB lo hi l k hx from fun h=>by have:=h.2 (by omega); omega)]
       exact ⟨_,(by repeat (first|exact zT _|refine zO G ?_)),yK.out⟩
      ·repeat (first|refine yI G G G G G ?_|refine yE G G G G (yA G G G) ?_|refine W_load G G G G (yF G) (zG G (zS G)) ?_)
       refine W_call G G G G (zQ G G G) (set19_spec w0 (D+E1+hb) (.slice none 0 0) (.slice ad l[k].data.length cd) [] l[k].no l[k].data (RdL.nil _ _ _) okB_nil hdat (by omega)) (Kept.all _) ?_
       rintro vs _ ⟨E5,h5,o5,rfl⟩
       obtain ⟨a5,c5,rfl⟩:=o5.shape
       refine ⟨(by repeat (first|exact trivial|exact zG G (zS G)|exact zL G G G|exact zX G (by assumption) G|exact zH G (by assumption) G|exact zH G (by assumption) (by assumption)|refine ⟨?_,?_⟩)),?_⟩
       repeat (refine yE G G G G (pv_len G) ?_)
       refine W_dec G G G G (pv_eql G G) (fun n5=>?_) (fun n5=>?_)
       ·repeat (first|refine yJ ?_|refine yI G G G G G ?_)
        rw [decide_eq_true (show badB lo hi l k hx from fun h=>h.1.2.2.2.2 ((setB_nil m2 m3 m4).1 n5))]
        exact ⟨_,(by repeat (first|exact zT _|refine zO G ?_)),yK.out⟩
       ·have hne:l[k].data≠zeros4:=fun h=>n5 ((setB_nil m2 m3 m4).2 h)
        repeat (first|refine yJ ?_|refine yI G G G G G ?_)
        rw [decide_eq_false (show ¬ badB lo hi l k hx by exact fun h=>h ⟨⟨m1,m2,m3,m4,hne⟩,fun _=>by omega⟩)]
        exact ⟨_,(by repeat (first|exact zT _|refine zO G ?_)),yK.out⟩
     ·repeat (first|refine yI G G G G G ?_|refine yE G G G G (yA G G G) ?_|refine W_load G G G G (yF G) (zG G (zS G)) ?_|refine W_skip G G G G ?_)
      refine W_call G G G G (zQ G G G) (set19_spec w0 (D+E1+hb) (.slice none 0 0) (.slice ad l[k].data.length cd) [] l[k].no l[k].data (RdL.nil _ _ _) okB_nil hdat (by omega)) (Kept.all _) ?_
      rintro vs _ ⟨E5,h5,o5,rfl⟩
      obtain ⟨a5,c5,rfl⟩:=o5.shape
      refine ⟨(by repeat (first|exact trivial|exact zG G (zS G)|exact zL G G G|exact zX G (by assumption) G|exact zH G (by assumption) G|exact zH G (by assumption) (by assumption)|refine ⟨?_,?_⟩)),?_⟩
      repeat (refine yE G G G G (pv_len G) ?_)
      refine W_dec G G G G (pv_eql G G) (fun n5=>?_) (fun n5=>?_)
      ·repeat (first|refine yJ ?_|refine yI G G G G G ?_)
       rw [decide_eq_true (show badB lo hi l k hx from fun h=>h.1.2.2.2.2 ((setB_nil m2 m3 m4).1 n5))]
       exact ⟨_,(by repeat (first|exact zT _|refine zO G ?_)),yK.out⟩
      ·have hne:l[k].data≠zeros4:=fun h=>n5 ((setB_nil m2 m3 m4).2 h)
       repeat (first|refine yJ ?_|refine yI G G G G G ?_)
       rw [decide_eq_false (show ¬ badB lo hi l k hx by exact fun h=>h ⟨⟨m1,m2,m3,m4,hne⟩,fun h=>by omega⟩)]
       exact ⟨_,(by repeat (first|exact zT _|refine zO G ?_)),yK.out⟩
   ·rintro g' _ ⟨R,hsub,rfl⟩
    refine hold_env hsub ?_
    clear hsub g'
    refine hold_cond_d G (fun n3=>?_) (fun n3=>?_)
    ·repeat (first|refine zF ?_|refine zB ?_|refine zE ?_|refine zK G G G ?_|refine zM ?_)
     refine ⟨[_,_,_],X,_,⟨rfl,rfl,rfl,trivial⟩,.inl ⟨?_,rfl,rfl⟩,yK.out⟩
     rw [hpf,if_neg]
     rintro ⟨_,hpo⟩
     obtain ⟨⟨p1,p2⟩,_⟩:=partOk_iff.1 hpo
     refine n3 ⟨p1 _ (List.getElem_mem hx),fun h0=>Classical.byContradiction fun hc=>pw_not hx h0 hc p2⟩
    ·obtain ⟨q1,q2⟩:=Classical.byContradiction n3
     repeat (first|refine zB ?_|refine zE ?_|refine zK G G G ?_|refine zP ?_|refine L_add G G (by omega) (by omega) G G ?_)
     refine ⟨hx,_,(by repeat (first|exact zT _|refine zO G ?_)),_,rfl,?_,pw_take (r:=fun a b:Blk=>a.no<b.no) (fun a b c h h'=>Int.lt_trans h h') hx g2 q2,yK.out⟩
     exact all_take_succ' hx g1 q1
  ·rw [List.take_of_length_le (by omega)] at g1 g2
   clear hkk n2
   repeat (first|refine zF ?_|refine zR ?_|refine yD ?_|refine zB ?_|refine zE ?_|refine zK G G G ?_|refine L_len G G G ?_|refine zI G ?_)
   refine hold_count kk.length (fun k g L=>∃ (R:Hp),g=[(3,.pointer (some ⟨b3,0,none⟩)),(8,.slice ab l.length cb),(9,.slice ak kk.length ck),(62,.slice ak kk.length ck),(63,.int .i64 kk.length),(64,.int .i64 k)]∧(∀ x∈kk.take k,okK1 lo hi x)∧(kk.take k).Pairwise ltK ∧
     L=X+D+E1+hb+E2+hk+spanC b3 lo hi+fr+R) _ ⟨_,rfl,by simp,by simp,yK.out⟩ (by repeat (first|exact zT _|refine zO G ?_)) ?_
   clear R k
   rintro k g L hkk ⟨R,rfl,g3,g4,rfl⟩
   repeat (first|refine zF ?_|refine zB ?_)
   refine yG G G (pv_lss G G) (fun n2=>?_) (fun n2=>?_)
   ·have hx:k<kk.length:=by omega
    obtain ⟨bw,ow,rfl,⟨ew,hrw,hat⟩,ew2,hrw2,hat2⟩:=ok.rd0.at2 hx (show k - 1<kk.length by omega)
    obtain ⟨ad,cd,rfl,hdat⟩:=id hrw
    obtain ⟨ad2,cd2,rfl,_⟩:=id hrw2
    repeat (first|refine zF ?_|refine zR ?_|refine zB ?_|refine zE ?_|refine zK G G G ?_|refine zP ?_|refine zJ G ?_|refine L_idx G G (by omega) G G ?_|refine L_atA G (by assumption) G G G G ?_|refine L_stA G (vs:=[_,_,_]) G G G G (c':=[_,_,_]) G G ?_|refine L_alloc (c:=[_,_,_]) G G G (fun _=>?_))
    rename_i b13
    refine hold_join (fun g' L'=>∃ (R:Hp),Sub g' [(3,.pointer (some ⟨b3,0,none⟩)),(8,.slice ab l.length cb),(9,.slice (some ⟨bw,ow,none⟩) kk.length ck),(62,.slice (some ⟨bw,ow,none⟩) kk.length ck),(63,.int .i64 kk.length),(64,.int .i64 k),(89,.bool (decide (badK lo hi kk k hx)))] ∧
     L'=X+D+E1+hb+E2+hk+spanC b3 lo hi+fr+R) ?_ ?_
    ·refine yC [5,17] [0,1,2,3,4,5,6,7,8,9,10,11,12,13,14,15,16,17,18,19,20] (by kernel_rfl) G (by kernel_rfl) (by kernel_rfl) ?_
     repeat (first|refine yE G G G G (yA G G G) ?_|refine W_load G G G G (yF G) (zG G (zS G)) ?_|refine W_load G G G G (yF G) (zL (vs:=[_,_]) G G G) ?_)
     refine W_call G G G G (zQ G G G) (may_spec w0 lo hi kk[k].no ad kk[k].data.length cd) (Kept.all _) ?_
     rintro _ _ ⟨rfl,rfl⟩
     refine ⟨(by repeat (first|exact trivial|exact zG G (zS G)|exact zL G G G|exact zX G (by assumption) G|exact zH G (by assumption) G|exact zH G (by assumption) (by assumption)|refine ⟨?_,?_⟩)),?_⟩
     cases hm:mayF lo hi kk[k].no kk[k].data.length
     ·repeat (first|refine yJ ?_|refine yI G G G G G ?_|refine W_skip G G G G ?_|refine W_not G G G G ?_)
      rw [decide_eq_true (show badK lo hi kk k hx from fun h=>by rw [mayF_iff.2 h.1] at hm; cases hm)]
      exact ⟨_,(by repeat (first|exact zT _|refine zO G ?_)),yK.out⟩
     ·have hm2:=mayF_iff.1 hm
      repeat (refine yI G G G G G ?_)
      refine W_dec G G G G (pv_gtr G G) (fun n3=>?_) (fun n3=>?_)
      ·repeat (refine yI G G G G G ?_)
       refine yE G G G G (pv_sub G G (by omega) (by omega)) ?_
       rw [show ((k:Int) - 1)=((k - 1:Nat):Int) by omega]
       repeat (first|refine W_load G G G G (yF G) (zL (vs:=[_,_,_]) G G G) ?_|refine W_idx G G G (by omega) G G G ?_|refine W_atA G G (by assumption) G G G G G ?_)
       refine W_call G G G G (zQ G G G) (orderKept_spec w0 kk[k - 1] kk[k] _ _ _ _ hrw2 hrw) (Kept.all _) ?_
       rintro _ _ ⟨rfl,rfl⟩
       refine ⟨(by repeat (first|exact trivial|exact zG G (zS G)|exact zL G G G|exact zX G (by assumption) G|exact zH G (by assumption) G|exact zH G (by assumption) (by assumption)|refine ⟨?_,?_⟩)),?_⟩
       refine W_dec G G G G (pv_geq G G) (fun n4=>?_) (fun n4=>?_)
       ·repeat (first|refine yJ ?_|refine yI G G G G G ?_)
        rw [decide_eq_true (show badK lo hi kk k hx from fun h=>by have:=ordK_neg.2 (h.2 (by omega)); omega)]
        exact ⟨_,(by repeat (first|exact zT _|refine zO G ?_)),yK.out⟩
       ·repeat (first|refine yJ ?_|refine yI G G G G G ?_)
        rw [decide_eq_false (show ¬ badK lo hi kk k hx from fun h=>h ⟨hm2,fun _=>ordK_neg.1 (by omega)⟩)]
        exact ⟨_,(by repeat (first|exact zT _|refine zO G ?_)),yK.out⟩
      ·repeat (first|refine yJ ?_|refine yI G G G G G ?_|refine W_skip G G G G ?_|refine W_not G G G G ?_)
       rw [decide_eq_false (show ¬ badK lo hi kk k hx from fun h=>h ⟨hm2,fun h=>by omega⟩)]
       exact ⟨_,(by repeat (first|exact zT _|refine zO G ?_)),yK.out⟩
    ·rintro g' _ ⟨R,hsub,rfl⟩
     refine hold_env hsub ?_
     clear hsub g'
     refine hold_cond_d G (fun n3=>?_) (fun n3=>?_)
     ·repeat (first|refine zF ?_|refine zB ?_|refine zE ?_|refine zK G G G ?_|refine zM ?_)
      refine ⟨[_,_,_],X,_,⟨rfl,rfl,rfl,trivial⟩,.inl ⟨?_,rfl,rfl⟩,yK.out⟩
      rw [hpf,if_neg]
      rintro ⟨_,hpo⟩
      obtain ⟨_,p1,p2⟩:=partOk_iff.1 hpo
      refine n3 ⟨p1 _ (List.getElem_mem hx),fun h0=>Classical.byContradiction fun hc=>pw_not hx h0 hc p2⟩
     ·obtain ⟨q1,q2⟩:=Classical.byContradiction n3
      repeat (first|refine zB ?_|refine zE ?_|refine zK G G G ?_|refine zP ?_|refine L_add G G (by omega) (by omega) G G ?_)
      refine ⟨hx,_,(by repeat (first|exact zT _|refine zO G ?_)),_,rfl,?_,pw_take (r:=ltK) (fun a b c h h'=>ltKey_trans h h') hx g4 q2,yK.out⟩
      exact all_take_succ' hx g3 q1
   ·rw [List.take_of_length_le (by omega)] at g3 g4
    repeat (first|refine zF ?_|refine yD ?_|refine zB ?_|refine zE ?_|refine zK G G G ?_|refine zM ?_|refine zI G ?_)
    exact ⟨[_,_,_],X+(D+E1+E2+hb+hk),_,⟨rfl,rfl,rfl,trivial⟩,.inr ⟨l,kk,_,_,D+E1+E2,hb,hk,by rw [hpf,if_pos ⟨n1',partOk_iff.2 ⟨⟨g1,g2⟩,g3,g4⟩⟩],rfl,ob.mono G,ok.mono (show D+E1+E2=D+E2+E1 by ac_rfl),rfl⟩,yK.out⟩
end Sl
end Go.Proofs.YtpkealohodeifaaGreat
namespace Go.Proofs.YtpkealohodeifaaGreat
open Go Go.RowKit
namespace Sl
set_option maxHeartbeats 16000000
set_option maxRecDepth 4000
set_option synthInstance.maxHeartbeats 400000
set_option synthInstance.maxSize 100000
attribute [local irreducible] Hold HoldL HoldW
section
variable {α:Type} [ρ:Rep α] {w0:World} {X:Hp}
def AllZ (w0:World) (X:Hp) (zs:List (α × List Value)):Prop:=∀ z∈zs,ρ.rd w0 X z.1 z.2
abbrev rowsZ (zs:List (α × List Value)):List (List Value):=zs.map Prod.snd
abbrev ltc (c:α→α→Int):α × List Value→α × List Value→Prop:=fun p q=>c p.1 q.1<0
theorem AllZ.len {zs:List (α × List Value)} (h:AllZ w0 X zs):∀ e∈rowsZ zs,e.length=ρ.size:=by
 intro e he
 obtain ⟨z,hz,rfl⟩:=List.mem_map.1 he
 exact Rep.len (h z hz)
theorem AllZ.perm {zs zs':List (α × List Value)} (h:AllZ w0 X zs) (p:zs'.Perm zs):AllZ w0 X zs':=fun z hz=>h z (p.mem_iff.1 hz)
theorem AllZ.set {zs:List (α × List Value)} (h:AllZ w0 X zs) {z:α × List Value} (hz:ρ.rd w0 X z.1 z.2) (i:Nat):AllZ w0 X (zs.set i z):=by
 intro y hy
 rcases List.mem_or_eq_of_mem_set hy with hy|rfl
 ·exact h y hy
 ·exact hz
theorem allZ_app {l m:List (α × List Value)}:AllZ w0 X (l++m)↔AllZ w0 X l∧AllZ w0 X m :=
 ⟨fun h=>⟨fun z hz=>h z (List.mem_append_left _ hz),fun z hz=>h z (List.mem_append_right _ hz)⟩,fun ⟨h1,h2⟩ z hz=>(List.mem_append.1 hz).elim (h1 z) (h2 z)⟩
theorem allZ_cons {x:α × List Value} {l:List (α × List Value)}:AllZ w0 X (x::l)↔ρ.rd w0 X x.1 x.2∧AllZ w0 X l :=
 ⟨fun h=>⟨h x (List.mem_cons_self ..),fun z hz=>h z (List.mem_cons_of_mem _ hz)⟩,fun ⟨h1,h2⟩ z hz=>(List.mem_cons.1 hz).elim (fun e=>by rw [e]; exact h1) (h2 z)⟩
theorem AllZ.take {l:List (α × List Value)} (h:AllZ w0 X l) (k:Nat):AllZ w0 X (l.take k):=fun z hz=>h z (List.mem_of_mem_take hz)
theorem AllZ.drop {l:List (α × List Value)} (h:AllZ w0 X l) (k:Nat):AllZ w0 X (l.drop k):=fun z hz=>h z (List.mem_of_mem_drop hz)
theorem z_at {zs:List (α × List Value)} (h:AllZ w0 X zs) {b:Nat} {spare:List Value} {E:TypeId} {fz:Nat × Nat} {i:Nat} {z:α × List Value} (hi:zs[i]?=some z) :
  At w0 (pt b (.cells ((rowsZ zs).flatten++spare).toArray E fz)) b (0+i*ρ.size) z.2:=at_row h.len (by simp [rowsZ,hi])
theorem z_set {zs:List (α × List Value)} (h:AllZ w0 X zs) (spare:List Value) {i:Nat} (hi:i<zs.length) {z:α × List Value} (hz:z.2.length=ρ.size) :
  spliceL (0+i*ρ.size) z.2 ((rowsZ zs).flatten++spare)=(rowsZ (zs.set i z)).flatten++spare:=by
 have e:rowsZ zs=rowsZ (zs.take i)++zs[i].2::rowsZ (zs.drop (i+1)):=by
  show zs.map _=(zs.take i).map _++Prod.snd zs[i]::(zs.drop (i+1)).map _
  rw [← List.map_cons (f:=Prod.snd),← List.drop_eq_getElem_cons hi,← List.map_append,List.take_append_drop]
 have e2:rowsZ (zs.set i z)=rowsZ (zs.take i)++[z.2]++rowsZ (zs.drop (i+1)):=by
  rw [List.set_eq_take_append_cons_drop,if_pos hi]
  simp [rowsZ]
 have hl:(rowsZ (zs.take i)).length=i:=by simp [rowsZ]; omega
 rw [e,e2]
 have hA:=h.len
 rw [e] at hA
 have:=splice_row (fs:=rowsZ (zs.take i)) (rs:=rowsZ (zs.drop (i+1))) (r0:=zs[i].2) (e:=z.2) (spare:=spare) (size:=ρ.size) (fun x hx=>hA x (List.mem_append_left _ hx)) (hA _ (List.mem_append_right _ (List.mem_cons_self ..))) hz
 rw [hl] at this
 exact this
theorem z_room {zs:List (α × List Value)} (h:AllZ w0 X zs) (spare:List Value) {i:Nat} (hi:i<zs.length):0+i*ρ.size+ρ.size≤((rowsZ zs).flatten++spare).length:=by
 rw [List.length_append,length_flat h.len,List.length_map]
 have:=Nat.mul_le_mul_right ρ.size (show i+1≤zs.length by omega)
 rw [Nat.add_mul] at this
 omega
theorem ev_storeZ {P:Program} {L:Hp} {g:Env} {t:TypeId} {sz by':Nat} {zz:Value} [hi:Inf P t sz by' zz] {x y:Operand} {b:Nat} {spare:List Value} {e:TypeId} {R:Hp} {zs:List (α × List Value)} {i:Nat} {z:α × List Value} (h:AllZ w0 X zs) (hil:i<zs.length) (hz:ρ.rd w0 X z.1 z.2)
  (hx:ev g x=some (.pointer (some ⟨b,0+i*ρ.size,none⟩))) (hy:ev g y=some (.agg z.2.toArray)) (hsz:(ρ.size==sz)=true) [hb:HasPt b L (.cells ((rowsZ zs).flatten++spare).toArray e (0,0)) R] :
  EV P w0 L g (.store t x y) fun _ L'=>L'=pt b (.cells ((rowsZ (zs.set i z)).flatten++spare).toArray e (0,0))+R:=by
 have hs:ρ.size=sz:=by simpa using hsz
 refine ev_storeA (c:=(rowsZ zs).flatten++spare) hx hy (by rw [Rep.len hz]; exact hsz) (List.all_eq_true.2 (Rep.one hz)) (by rw [Rep.len hz]; exact z_room h spare hil) (z_set h spare hil (Rep.len hz))
theorem z_len {z:α × List Value} (hz:ρ.rd w0 X z.1 z.2) {sz:Nat} (hs:(ρ.size==sz)=true):(z.2.length==sz)=true:=by rw [Rep.len hz]; exact hs
end
section
variable {β:Type}
theorem adj_get (P S:List β) (x y:β):(P++x::y::S)[P.length]?=some x∧(P++x::y::S)[P.length+1]?=some y:=by
 constructor
 ·simp
 ·rw [List.getElem?_append_right (by omega)]; simp
theorem adj_set (P S:List β) (x y:β):((P++x::y::S).set P.length y).set (P.length+1) x=P++y::x::S:=by
 rw [List.set_append_right _ _ (Nat.le_refl _),List.set_append_right _ _ (by omega)]
 simp
theorem adj_set' (P S:List β) (x y:β):((P++x::y::S).set (P.length+1) x).set P.length y=P++y::x::S:=by
 rw [List.set_append_right _ _ (by omega),List.set_append_right _ _ (Nat.le_refl _)]
 simp
theorem far_get (P Q S:List β) (x y:β):(P++x::(Q++y::S))[P.length]?=some x∧(P++x::(Q++y::S))[P.length+1+Q.length]?=some y:=by
 constructor
 ·simp
 ·rw [List.getElem?_append_right (by omega),show P.length+1+Q.length - P.length=Q.length+1 by omega,List.getElem?_cons_succ,List.getElem?_append_right (Nat.le_refl _)]; simp
theorem far_set (P Q S:List β) (x y:β):((P++x::(Q++y::S)).set P.length y).set (P.length+1+Q.length) x=P++y::(Q++x::S):=by
 rw [List.set_append_right _ _ (Nat.le_refl _),List.set_append_right _ _ (by omega),show P.length+1+Q.length - P.length=Q.length+1 by omega,Nat.sub_self,List.set_cons_zero,List.set_cons_succ,List.set_append_right _ _ (Nat.le_refl _)]
 simp
end
abbrev arrKpt (b:Nat) (zs:List (Kpt × List Value)) (spare:List Value):Hp:=pt b (.cells ((rowsZ zs).flatten++spare).toArray 73 (0,0))
theorem swapRangeKpt_spec (w0:World) (X:Hp) (bl n cap a b m:Nat) (A U M V C:List (Kpt × List Value)) (spare:List Value) (vf:Value) (hz:AllZ w0 X (A++(U++(M++(V++C))))) (hUV:V.length=U.length) (ha:a=A.length) (hb:b=A.length+U.length+M.length) (hm:m=U.length)
  (hn:n=A.length+U.length+M.length+V.length+C.length) (hmax:n≤1000000000) :
  Spec Tryz.prog w0 306 [.slice (some ⟨bl,0,none⟩) n cap,.int .i64 (a:Int),.int .i64 (b:Int),.int .i64 (m:Int),vf] (arrKpt bl (A++(U++(M++(V++C)))) spare) (fun r h'=>r=.tuple #[]∧arrKpt bl (A++(V++(M++(U++C)))) spare=h'):=by
 refine zN Tryz.func306 G Tryz.ntmps306 Tryz.results306 G fun fr=>?_
 repeat (first|refine zF ?_|refine zR ?_|refine zB ?_|refine zE ?_|refine zK G G G ?_)
 refine hold_count U.length (fun k g L=>∃ (R:Hp),g=[(0,.slice (some ⟨bl,0,none⟩) n cap),(1,.int .i64 (a:Int)),(2,.int .i64 (b:Int)),(3,.int .i64 (m:Int)),(10,.int .i64 (k:Int))] ∧
   L=arrKpt bl (A++((V.take k++U.drop k)++(M++((U.take k++V.drop k)++C)))) spare+fr+R) _ ⟨0,rfl,by simp only [List.take_zero,List.drop_zero,List.nil_append,yB]⟩ (by repeat (first|exact zT _|refine zO G ?_)) ?_
 rintro k g L hk ⟨R,rfl,rfl⟩
 repeat (first|refine zF ?_|refine zB ?_|refine zK G G G ?_)
 refine yG G G (pv_lss G G) (fun n1=>?_) (fun n1=>?_)
 ·have hx:k<U.length:=by omega
  have hy:k<V.length:=by omega
  have e1:A++((V.take k++U.drop k)++(M++((U.take k++V.drop k)++C)))=(A++V.take k)++U[k]::((U.drop (k+1)++(M++U.take k))++V[k]::(V.drop (k+1)++C)):=by
   rw [List.drop_eq_getElem_cons hx,List.drop_eq_getElem_cons hy]; simp only [List.append_assoc,List.cons_append]
  have e2:A++((V.take (k+1)++U.drop (k+1))++(M++((U.take (k+1)++V.drop (k+1))++C)))=(A++V.take k)++V[k]::((U.drop (k+1)++(M++U.take k))++U[k]::(V.drop (k+1)++C)):=by
   rw [List.take_succ_eq_append_getElem hx,List.take_succ_eq_append_getElem hy]; simp only [List.append_assoc,List.cons_append,List.nil_append]
  have hl1:(A++V.take k).length=a+k:=by rw [List.length_append,List.length_take]; omega
  have hl2:(A++V.take k).length+1+(U.drop (k+1)++(M++U.take k)).length=b+k:=by simp only [List.length_append,List.length_take,List.length_drop]; omega
  have hz2:AllZ w0 X ((A++V.take k)++U[k]::((U.drop (k+1)++(M++U.take k))++V[k]::(V.drop (k+1)++C))):=by
   intro z hz'
   apply hz
   rw [← e1] at hz'
   simp only [List.mem_append] at hz' ⊢
   rcases hz' with h|(h|h)|h|(h|h)|h
   ·exact .inl h
   ·exact .inr (.inr (.inr (.inl (List.mem_of_mem_take h))))
   ·exact .inr (.inl (List.mem_of_mem_drop h))
   ·exact .inr (.inr (.inl h))
   ·exact .inr (.inl (List.mem_of_mem_take h))
   ·exact .inr (.inr (.inr (.inl (List.mem_of_mem_drop h))))
   ·exact .inr (.inr (.inr (.inr h)))
  have hlen:((A++V.take k)++U[k]::((U.drop (k+1)++(M++U.take k))++V[k]::(V.drop (k+1)++C))).length=n:=by
   simp only [List.length_append,List.length_cons,List.length_take,List.length_drop]; omega
  rw [e1]
  generalize hU:U[k]=x at *
  generalize hV:V[k]=y at *
  generalize hP:A++V.take k=P at *
  generalize hQ:U.drop (k+1)++(M++U.take k)=Q at *
  generalize hS:V.drop (k+1)++C=S at *
  obtain ⟨g1,g2⟩:=far_get P Q S x y
  have gs:=far_set P Q S x y
  rw [hl2] at g2 gs
  rw [hl1] at g1 gs
  have hrx:Rep.rd w0 X x.1 x.2:=hz2 x (by simp)
  have hry:Rep.rd w0 X y.1 y.2:=hz2 y (by simp)
  have hat1:=z_at hz2 (b:=bl) (spare:=spare) (E:=73) (fz:=(0,0)) g1
  have hat2:=z_at hz2 (b:=bl) (spare:=spare) (E:=73) (fz:=(0,0)) g2
  have hq1:=z_len hrx (sz:=Rep.size Kpt) (by simp)
  have hq2:=z_len hry (sz:=Rep.size Kpt) (by simp)
  repeat (first|refine zF ?_|refine zR ?_|refine zE ?_|refine zP ?_|refine zJ G ?_)
  refine yC [21,23] [0,1,2,3,4,5,6,7,8,9,10,11,12,13,14,15,16,17,18,19,20,21,22,23] (by kernel_rfl) G (by kernel_rfl) (by kernel_rfl) ?_
  repeat (first|refine yI G G G G G ?_|refine yE G G G G (pv_add G G (by omega) (by omega)) ?_|refine W_idx G G G (by omega) G G G ?_)
  rw [show ((a:Int)+(k:Int))=((a+k:Nat):Int) by omega,show ((b:Int)+(k:Int))=((b+k:Nat):Int) by omega]
  skip
  refine W_atA G G hat2 hq2 G G G G ?_
  repeat (first|refine yI G G G G G ?_|refine yE G G G G (pv_add G G (by omega) (by omega)) ?_|refine W_idx G G G (by omega) G G G ?_)
  refine W_atA G G hat1 hq1 G G G G ?_
  repeat (refine W_idx G G G (by omega) G G G ?_)
  refine W_eff (W':=?wk1) G G G G (ev_storeZ hz2 (by omega) hry G G G) ?wkk1 ?wrest1
  case wkk1=>repeat (first|exact Kept.nil|refine Kept.drop (by kernel_rfl) ?_|refine Kept.keep ?_)
  rintro _ _ rfl
  refine ⟨(by repeat (first|exact trivial|exact zG G (zS G)|exact zL G G G|exact zX G (by assumption) G|exact zH G (by assumption) G|exact zH G (by assumption) (by assumption)|refine ⟨?_,?_⟩)),?_⟩
  repeat (refine W_idx G G G (by omega) G G G ?_)
  refine W_eff (W':=?wk2) G G G G (ev_storeZ (hz2.set hry _) (by rw [List.length_set]; omega) hrx G G G) ?wkk2 ?wrest2
  case wkk2=>repeat (first|exact Kept.nil|refine Kept.drop (by kernel_rfl) ?_|refine Kept.keep ?_)
  rintro _ _ rfl
  refine ⟨(by repeat (first|exact trivial|exact zG G (zS G)|exact zL G G G|exact zX G (by assumption) G|exact zH G (by assumption) G|exact zH G (by assumption) (by assumption)|refine ⟨?_,?_⟩)),?_⟩
  rw [gs]
  repeat (refine yJ ?_)
  repeat (first|refine zB ?_|refine zE ?_|refine zK G G G ?_|refine L_add G G (by omega) (by omega) G G ?_)
  rw [← e2]
  exact ⟨hx,_,(by repeat (first|exact zT _|refine zO G ?_)),_,rfl,yK.out⟩
 ·have hkk:k=U.length:=by omega
  subst hkk
  rw [List.take_length,List.drop_length,← hUV,List.take_length,List.drop_length,List.append_nil,List.append_nil]
  repeat (first|refine yD ?_|refine zE ?_|refine zI G ?_)
  exact ⟨[],_,_,trivial,⟨rfl,rfl⟩,yK.out⟩
end Sl
end Go.Proofs.YtpkealohodeifaaGreat
namespace Go.Proofs.YtpkealohodeifaaGreat
open Go Go.RowKit
namespace Sl
set_option maxHeartbeats 16000000
set_option maxRecDepth 4000
set_option synthInstance.maxHeartbeats 400000
set_option synthInstance.maxSize 100000
attribute [local irreducible] Hold HoldL HoldW
theorem rotateKpt_spec (w0:World) (X:Hp) (bl n cap a m b:Nat) (A U V C:List (Kpt × List Value)) (spare:List Value) (vf:Value) (hz:AllZ w0 X (A++(U++(V++C)))) (hU:0<U.length) (hV:0<V.length) (ha:a=A.length) (hm:m=A.length+U.length) (hb:b=A.length+U.length+V.length)
  (hn:n=A.length+U.length+V.length+C.length) (hmax:n≤1000000000) :
  Spec Tryz.prog w0 294 [.slice (some ⟨bl,0,none⟩) n cap,.int .i64 (a:Int),.int .i64 (m:Int),.int .i64 (b:Int),vf] (arrKpt bl (A++(U++(V++C))) spare) (fun r h'=>r=.tuple #[]∧arrKpt bl (A++(V++(U++C))) spare=h'):=by
 refine zN Tryz.func294 G Tryz.ntmps294 Tryz.results294 G fun fr=>?_
 repeat (first|refine zF ?_|refine zR ?_|refine zB ?_|refine zE ?_|refine zK G G G ?_|refine L_sub G G (by omega) (by omega) G G ?_)
 rw [show ((m:Int) - (a:Int))=((U.length:Nat):Int) by omega,show ((b:Int) - (m:Int))=((V.length:Nat):Int) by omega]
 refine hold_loop (fun q g L=>∃ (i j:Nat) (P U' V' S:List (Kpt × List Value)) (R:Hp),q=i+j∧i=U'.length∧j=V'.length∧0<i∧0<j∧P++(V'++(U'++S))=V++U∧A.length+P.length+i=m∧AllZ w0 X (A++(P++(U'++(V'++(S++C))))) ∧
   g=[(0,.slice (some ⟨bl,0,none⟩) n cap),(2,.int .i64 (m:Int)),(4,vf),(10,.int .i64 (i:Int)),(11,.int .i64 (j:Int))]∧L=arrKpt bl (A++(P++(U'++(V'++(S++C))))) spare+fr+R) _ _
  ⟨U.length,V.length,[],U,V,[],0,rfl,rfl,rfl,hU,hV,by simp,by simp; omega,hz,rfl,by simp only [List.nil_append,yB]⟩ (by repeat (first|exact zT _|refine zO G ?_)) ?_
 rintro q g L ⟨i,j,P,U',V',S,R,rfl,hi,hj,i0,j0,he,hm',hz',rfl,rfl⟩
 have hle:P.length+V'.length+U'.length+S.length=V.length+U.length:=by
  have:=congrArg List.length he
  simp only [List.length_append] at this; omega
 have hz4:=hz'
 simp only [allZ_app] at hz4
 obtain ⟨z1,z2,z3,z4,z5,z6⟩:=hz4
 repeat (first|refine zF ?_|refine zB ?_|refine zK G G G ?_)
 refine yG G G (pv_neq G G) (fun n1=>?_) (fun n1=>?_)
 ·repeat (first|refine zF ?_|refine zR ?_|refine zB ?_|refine zE ?_|refine zK G G G ?_|refine zP ?_|refine zJ G ?_)
  refine yG G G (pv_gtr G G) (fun n2=>?_) (fun n2=>?_)
  ·have e1:A++(P++(U'++(V'++(S++C))))=(A++P)++(U'.take j++(U'.drop j++(V'++(S++C)))):=by
    rw [← List.append_assoc (U'.take j),List.take_append_drop]; simp only [List.append_assoc]
   have e2:(A++P)++(V'++(U'.drop j++(U'.take j++(S++C))))=A++((P++V')++(U'.drop j++(U'.take j++(S++C)))):=by simp only [List.append_assoc]
   have l1:(U'.take j).length=j:=by rw [List.length_take]; omega
   have l2:(U'.drop j).length=i - j:=by rw [List.length_drop]; omega
   rw [e1] at hz' ⊢
   repeat (first|refine zF ?_|refine zB ?_|refine zE ?_|refine zK G G G ?_|refine zJ G ?_|refine L_sub G G (by omega) (by omega) G G ?_)
   rw [show ((m:Int) - (i:Int))=((m - i:Nat):Int) by omega]
   refine zY G G (zQ G G G) (swapRangeKpt_spec w0 X bl n cap (m - i) m j (A++P) (U'.take j) (U'.drop j) V' (S++C) spare vf hz' (by omega) (by rw [List.length_append]; omega) (by rw [List.length_append]; omega) (by omega) (by simp only [List.length_append]; omega) hmax) ?_
   rintro _ _ ⟨rfl,rfl⟩
   repeat (first|refine zB ?_|refine zE ?_|refine zK G G G ?_|refine L_sub G G (by omega) (by omega) G G ?_)
   rw [show ((i:Int) - (j:Int))=((i - j:Nat):Int) by omega,e2]
   refine ⟨(i - j)+j,_,by omega,(by repeat (first|exact zT _|refine zO G ?_)),i - j,j,P++V',U'.drop j,U'.take j,S,R,rfl,by omega,by omega,by omega,by omega,?_,by rw [List.length_append]; omega,?_,rfl,by ac_rfl⟩
   ·rw [← he,← List.append_assoc (U'.take j),List.take_append_drop]; simp only [List.append_assoc]
   ·simp only [allZ_app]
    exact ⟨z1,⟨z2,z4⟩,z3.drop j,z3.take j,z5,z6⟩
  ·have e1:A++(P++(U'++(V'++(S++C))))=(A++P)++(U'++(V'.take (j - i)++(V'.drop (j - i)++(S++C)))):=by
    rw [← List.append_assoc (V'.take (j - i)),List.take_append_drop]; simp only [List.append_assoc]
   have e2:(A++P)++(V'.drop (j - i)++(V'.take (j - i)++(U'++(S++C))))=A++(P++(V'.drop (j - i)++(V'.take (j - i)++((U'++S)++C)))):=by simp only [List.append_assoc]
   have l1:(V'.take (j - i)).length=j - i:=by rw [List.length_take]; omega
   have l2:(V'.drop (j - i)).length=i:=by rw [List.length_drop]; omega
   rw [e1] at hz' ⊢
   repeat (first|refine zF ?_|refine zB ?_|refine zE ?_|refine zK G G G ?_|refine zI G ?_|refine L_add G G (by omega) (by omega) G G ?_|refine L_sub G G (by omega) (by omega) G G ?_)
   rw [show ((m:Int) - (i:Int))=((m - i:Nat):Int) by omega,show ((m:Int)+(j:Int) - (i:Int))=((m+j - i:Nat):Int) by omega]
   refine zY G G (zQ G G G) (swapRangeKpt_spec w0 X bl n cap (m - i) (m+j - i) i (A++P) U' (V'.take (j - i)) (V'.drop (j - i)) (S++C) spare vf hz' (by omega) (by rw [List.length_append]; omega) (by rw [List.length_append]; omega) (by omega) (by simp only [List.length_append]; omega) hmax) ?_
   rintro _ _ ⟨rfl,rfl⟩
   repeat (first|refine zB ?_|refine zE ?_|refine zK G G G ?_|refine L_sub G G (by omega) (by omega) G G ?_)
   rw [show ((j:Int) - (i:Int))=((j - i:Nat):Int) by omega,e2]
   refine ⟨i+(j - i),_,by omega,(by repeat (first|exact zT _|refine zO G ?_)),i,j - i,P,V'.drop (j - i),V'.take (j - i),U'++S,R,rfl,by omega,by omega,by omega,by omega,?_,by omega,?_,rfl,by ac_rfl⟩
   ·rw [← he,← List.append_assoc (V'.take (j - i)),List.take_append_drop]
   ·simp only [allZ_app]
    exact ⟨z1,z2,z4.drop _,z4.take _,⟨z3,z5⟩,z6⟩
 ·have hij:i=j:=by omega
  have e1:A++(P++(U'++(V'++(S++C))))=(A++P)++(U'++([]++(V'++(S++C)))):=by simp only [List.append_assoc,List.nil_append]
  have e2:(A++P)++(V'++([]++(U'++(S++C))))=A++(V++(U++C)):=by
   rw [List.nil_append,← List.append_assoc V U C,← he]; simp only [List.append_assoc]
  rw [e1] at hz' ⊢
  repeat (first|refine yD ?_|refine zB ?_|refine zE ?_|refine zK G G G ?_|refine zI G ?_|refine L_sub G G (by omega) (by omega) G G ?_)
  rw [show ((m:Int) - (i:Int))=((m - i:Nat):Int) by omega]
  refine zY G G (zQ G G G) (swapRangeKpt_spec w0 X bl n cap (m - i) m i (A++P) U' [] V' (S++C) spare vf hz' (by omega) (by rw [List.length_append]; omega) (by rw [List.length_append,List.length_nil]; omega) (by omega) (by simp only [List.length_append,List.length_nil]; omega) hmax) ?_
  rintro _ _ ⟨rfl,rfl⟩
  rw [e2]
  repeat (refine zE ?_)
  exact ⟨[],_,_,trivial,⟨rfl,rfl⟩,yK.out⟩
section
variable (w0:World) (X:Hp) (bl n cap:Nat) (spare:List Value) (k0:Nat) [hf:Fun Tryz.prog k0] (caps:List Value) (c:Kpt→Kpt→Int)
 (hp:∀ Y x y e f,Rep.rd w0 Y x e→Rep.rd w0 Y y f→Spec Tryz.prog w0 k0 (.agg e.toArray::.agg f.toArray::caps) X (fun r h'=>r=.int .i64 (c x y)∧X=h'))
include hp
theorem insertionSortKpt_spec (o:Ordr (ltc c)) (a b:Nat) (A U C:List (Kpt × List Value)) (hz:AllZ w0 X (A++(U++C))) (ha:a=A.length) (hb:b=A.length+U.length) (hn:n=A.length+U.length+C.length) (hmax:n≤1000000000) :
  Spec Tryz.prog w0 274 [.slice (some ⟨bl,0,none⟩) n cap,.int .i64 (a:Int),.int .i64 (b:Int),.func (.func k0) #[] caps.toArray] (X+arrKpt bl (A++(U++C)) spare)
   (fun r h'=>r=.tuple #[]∧∃ W,W.Perm U∧Srt (ltc c) W∧X+arrKpt bl (A++(W++C)) spare=h'):=by
 refine zN Tryz.func274 G Tryz.ntmps274 Tryz.results274 G fun fr=>?_
 repeat (first|refine zF ?_|refine zR ?_|refine zB ?_|refine zE ?_|refine zK G G G ?_|refine L_add G G (by omega) (by omega) G G ?_)
 refine hold_count U.length (fun k g L=>∃ (W:List (Kpt × List Value)) (R:Hp),g=[(0,.slice (some ⟨bl,0,none⟩) n cap),(1,.int .i64 (a:Int)),(2,.int .i64 (b:Int)),(3,.func (.func k0) #[] caps.toArray),(8,.int .i64 ((a+1+k:Nat):Int))]∧W.Perm (U.take (k+1))∧Srt (ltc c) W ∧
   L=X+arrKpt bl (A++(W++(U.drop (k+1)++C))) spare+fr+R) _ ⟨U.take 1,0,rfl,List.Perm.refl _,?_,by rw [← List.append_assoc (U.take 1),List.take_append_drop,yB]⟩ (by repeat (first|exact zT _|refine zO G ?_)) ?_
 ·match U with
  | []=>exact List.Pairwise.nil
  | x::l=>exact srt_one x
 rintro k g L hk ⟨W,R,rfl,hw,hs,rfl⟩
 have hwl:=hw.length_eq
 rw [List.length_take] at hwl
 repeat (first|refine zF ?_|refine zB ?_|refine zK G G G ?_)
 refine yG G G (pv_lss G G) (fun n1=>?_) (fun n1=>?_)
 ·have hx:k+1<U.length:=by omega
  have hzA:=hz
  simp only [allZ_app] at hzA
  obtain ⟨zA,zU,zC⟩:=hzA
  have zW:AllZ w0 X W:=(zU.take _).perm hw
  have zy:Rep.rd w0 X U[k+1].1 U[k+1].2:=zU _ (List.getElem_mem hx)
  have zD:AllZ w0 X (U.drop (k+2)):=zU.drop _
  have htk:U.take (k+2)=U.take (k+1)++[U[k+1]]:=List.take_succ_eq_append_getElem hx
  rw [List.drop_eq_getElem_cons hx]
  have hdl:(U.drop (k+2)).length=U.length - (k+2):=List.length_drop ..
  generalize hy:U[k+1]=y at *
  generalize hD:U.drop (k+1+1)=D at *
  repeat (first|refine zF ?_|refine zR ?_|refine zB ?_|refine zE ?_|refine zK G G G ?_|refine zP ?_|refine zJ G ?_)
  refine hold_count W.length (fun t g L=>∃ (j:Nat) (W1 W2:List (Kpt × List Value)) (R:Hp),W=W1++W2∧W2.length=t∧j=a+W1.length∧(∀ w∈W2,ltc c y w)∧g=[(0,.slice (some ⟨bl,0,none⟩) n cap),(1,.int .i64 (a:Int)),(2,.int .i64 (b:Int)),(3,.func (.func k0) #[] caps.toArray),(8,.int .i64 ((a+1+k:Nat):Int)),(9,.int .i64 (j:Int))] ∧
    L=X+arrKpt bl (A++(W1++y::(W2++(D++C)))) spare+fr+R) _ ⟨a+1+k,W,[],_,by rw [List.append_nil],rfl,by omega,by simp,rfl,by simp only [List.nil_append,List.cons_append]; exact yK.out⟩ (by repeat (first|exact zT _|refine zO G ?_)) ?_
  clear R
  rintro t g L ht ⟨j,W1,W2,R,hW,ht2,hj,hlt,rfl,rfl⟩
  have hl12:W.length=W1.length+W2.length:=by rw [hW,List.length_append]
  have zW12:=zW
  rw [hW,allZ_app] at zW12
  have done:(∀ w∈W1,¬ ltc c y w)→(W1++y::W2).Perm (U.take (k+1+1))∧Srt (ltc c) (W1++y::W2):=by
   intro h1
   refine ⟨?_,srt_mid (by rw [← hW]; exact hs) h1 (fun w hw=>o.asym (hlt w hw))⟩
   rw [show U.take (k+1+1)=U.take (k+1)++[y] from htk]
   refine (List.perm_middle).trans ?_
   rw [← hW]
   exact (List.perm_append_comm (l₁:=[y]) (l₂:=W)).trans (hw.append_right _)
  repeat (refine zF ?_)
  refine yC [14] [0,1,2,3,4,5,6,7,8,9,10,11,12,13,14,15,16] (by kernel_rfl) G (by kernel_rfl) (by kernel_rfl) ?_
  repeat (refine yI G G G G G ?_)
  refine W_dec G G G G (pv_gtr G G) (fun n2=>?_) (fun n2=>?_)
  ·obtain ⟨W0,x,rfl⟩:∃ W0 x,W1=W0++[x]:=⟨W1.dropLast,W1.getLast (by intro h; rw [h] at hj; simp at hj; omega),(List.dropLast_concat_getLast _).symm⟩
   rw [List.length_append,List.length_singleton] at hj hl12
   have e1:A++((W0++[x])++y::(W2++(D++C)))=(A++W0)++x::y::(W2++(D++C)):=by simp only [List.append_assoc,List.cons_append,List.nil_append]
   have zx:Rep.rd w0 X x.1 x.2:=zW12.1 x (by simp)
   have hz2:AllZ w0 X ((A++W0)++x::y::(W2++(D++C))):=by
    simp only [allZ_app,allZ_cons]
    exact ⟨⟨zA,(allZ_app.1 zW12.1).1⟩,zx,zy,zW12.2,zD,zC⟩
   have hlen:((A++W0)++x::y::(W2++(D++C))).length=n:=by simp only [List.length_append,List.length_cons]; omega
   obtain ⟨g1,g2⟩:=adj_get (A++W0) (W2++(D++C)) x y
   have gs:=adj_set' (A++W0) (W2++(D++C)) x y
   have hlP:(A++W0).length=j - 1:=by rw [List.length_append]; omega
   rw [hlP] at g1 gs
   rw [hlP,show j - 1+1=j by omega] at g2
   rw [show j - 1+1=j by omega] at gs
   have hat1:=z_at hz2 (b:=bl) (spare:=spare) (E:=73) (fz:=(0,0)) g1
   have hat2:=z_at hz2 (b:=bl) (spare:=spare) (E:=73) (fz:=(0,0)) g2
   have hq1:=z_len zx (sz:=Rep.size Kpt) (by simp)
   have hq2:=z_len zy (sz:=Rep.size Kpt) (by simp)
   rw [e1]
   repeat (first|refine yI G G G G G ?_|refine W_idx G G G (by omega) G G G ?_)
   refine W_atA G G hat2 hq2 G G G G ?_
   repeat (refine yI G G G G G ?_)
   refine yE G G G G (pv_sub G G (by omega) (by omega)) ?_
   rw [show ((j:Int) - 1)=((j - 1:Nat):Int) by omega]
   repeat (refine W_idx G G G (by omega) G G G ?_)
   refine W_atA G G hat1 hq1 G G G G ?_
   skip
   refine W_call G G G G (zQ G G (by simp<;>rfl)) (hp X y.1 x.1 _ _ zy zx) (Kept.all _) ?_
   rintro _ _ ⟨rfl,rfl⟩
   refine ⟨(by repeat (first|exact trivial|exact zG G (zS G)|exact zL G G G|exact zX G (by assumption) G|exact zH G (by assumption) G|exact zH G (by assumption) (by assumption)|refine ⟨?_,?_⟩)),?_⟩
   refine W_dec G G G G (pv_lss G G) (fun n3=>?_) (fun n3=>?_)
   ·repeat (first|refine yJ ?_|refine yI G G G G G ?_)
    repeat (first|refine zF ?_|refine zR ?_|refine zP ?_|refine zJ G ?_)
    refine yC [15,17] [0,1,2,3,4,5,6,7,8,9,10,11,12,13,14,15,16,17] (by kernel_rfl) G (by kernel_rfl) (by kernel_rfl) ?_
    repeat (refine yI G G G G G ?_)
    refine yE G G G G (pv_sub G G (by omega) (by omega)) ?_
    rw [show ((j:Int) - 1)=((j - 1:Nat):Int) by omega]
    repeat (refine yI G G G G G ?_)
    refine yE G G G G (pv_sub G G (by omega) (by omega)) ?_
    rw [show ((j:Int) - 1)=((j - 1:Nat):Int) by omega]
    repeat (refine W_idx G G G (by omega) G G G ?_)
    refine W_atA G G hat1 hq1 G G G G ?_
    repeat (first|refine yI G G G G G ?_|refine W_idx G G G (by omega) G G G ?_)
    refine W_atA G G hat2 hq2 G G G G ?_
    repeat (refine W_idx G G G (by omega) G G G ?_)
    refine W_eff (W':=?wk1) G G G G (ev_storeZ hz2 (by omega) zx G G G) ?wkk1 ?wrest1
    case wkk1=>repeat (first|exact Kept.nil|refine Kept.drop (by kernel_rfl) ?_|refine Kept.keep ?_)
    rintro _ _ rfl
    refine ⟨(by repeat (first|exact trivial|exact zG G (zS G)|exact zL G G G|exact zX G (by assumption) G|exact zH G (by assumption) G|exact zH G (by assumption) (by assumption)|refine ⟨?_,?_⟩)),?_⟩
    repeat (refine W_idx G G G (by omega) G G G ?_)
    refine W_eff (W':=?wk2) G G G G (ev_storeZ (hz2.set zx _) (by rw [List.length_set]; omega) zy G G G) ?wkk2 ?wrest2
    case wkk2=>repeat (first|exact Kept.nil|refine Kept.drop (by kernel_rfl) ?_|refine Kept.keep ?_)
    rintro _ _ rfl
    refine ⟨(by repeat (first|exact trivial|exact zG G (zS G)|exact zL G G G|exact zX G (by assumption) G|exact zH G (by assumption) G|exact zH G (by assumption) (by assumption)|refine ⟨?_,?_⟩)),?_⟩
    rw [gs,show (A++W0)++y::x::(W2++(D++C))=A++(W0++y::((x::W2)++(D++C))) by simp only [List.append_assoc,List.cons_append,List.nil_append]]
    repeat (refine yJ ?_)
    repeat (first|refine zB ?_|refine zE ?_|refine zK G G G ?_|refine L_sub G G (by omega) (by omega) G G ?_)
    rw [show ((j:Int) - 1)=((j - 1:Nat):Int) by omega]
    refine ⟨by omega,_,(by repeat (first|exact zT _|refine zO G ?_)),j - 1,W0,x::W2,_,by rw [hW]; simp,by rw [List.length_cons,ht2],by omega,?_,rfl,yK.out⟩
    intro w hw2
    rcases List.mem_cons.1 hw2 with rfl|hw2
    ·exact n3
    ·exact hlt w hw2
   ·repeat (first|refine yJ ?_|refine yI G G G G G ?_)
    repeat (first|refine yD ?_|refine zB ?_|refine zE ?_|refine zK G G G ?_|refine zI G ?_|refine L_add G G (by omega) (by omega) G G ?_)
    rw [← e1,show A++((W0++[x])++y::(W2++(D++C)))=A++(((W0++[x])++y::W2)++(D++C)) by simp only [List.append_assoc,List.cons_append,List.nil_append]]
    obtain ⟨d1,d2⟩:=done (all_le_last o (srt_app.1 (by rw [← hW]; exact hs)).1 (fun h=>by simpa using n3))
    exact ⟨by omega,_,(by repeat (first|exact zT _|refine zO G ?_)),_,_,rfl,d1,d2,by first|(rw [hD]; done)|(rw [hD]; exact yK.out)⟩
  ·have hW1:W1=[]:=List.eq_nil_of_length_eq_zero (by omega)
   subst hW1
   repeat (first|refine yJ ?_|refine yI G G G G G ?_|refine W_skip G G G G ?_|refine W_not G G G G ?_)
   repeat (first|refine yD ?_|refine zB ?_|refine zE ?_|refine zK G G G ?_|refine zI G ?_|refine L_add G G (by omega) (by omega) G G ?_)
   rw [show A++([]++y::(W2++(D++C)))=A++(([]++y::W2)++(D++C)) by simp only [List.append_assoc,List.cons_append,List.nil_append]]
   obtain ⟨d1,d2⟩:=done (by simp)
   exact ⟨by omega,_,(by repeat (first|exact zT _|refine zO G ?_)),_,_,rfl,d1,d2,by first|(rw [hD]; done)|(rw [hD]; exact yK.out)⟩
 ·rw [List.take_of_length_le (by omega)] at hw
  rw [List.drop_of_length_le (by omega),List.nil_append]
  repeat (first|refine yD ?_|refine zE ?_|refine zI G ?_)
  exact ⟨[],_,_,trivial,⟨rfl,W,hw,hs,rfl⟩,yK.out⟩
end
end Sl
end Go.Proofs.YtpkealohodeifaaGreat
namespace Go.Proofs.YtpkealohodeifaaGreat
open Go Go.RowKit
namespace Sl
set_option maxHeartbeats 32000000
set_option maxRecDepth 4000
set_option synthInstance.maxHeartbeats 400000
set_option synthInstance.maxSize 100000
section
variable {P:Program} {ops:Array Oper} {Q Q':Exit→Act→World→Prop}
theorem letsOut_mono (hQ:∀ e a w,Q e a w→Q' e a w) (h:LetsOut Q):LetsOut Q':=let ⟨a,w,h'⟩:=h; ⟨a,w,hQ _ _ _ h'⟩
theorem operWp_mono {o:Oper} {a:Act} {w:World} {K K':Act→World→Prop} (h:∀ a w,K a w→K' a w) (hQ:∀ e a w,Q e a w→Q' e a w) (hh:o.wp P a w K Q):o.wp P a w K' Q':=by
 unfold Oper.wp at *
 generalize (execOp a.eval o).run P w=r at *
 cases r with
 | ok n w' =>
  cases n<;>simp only [Oper.upon] at hh ⊢ <;>
   first
    | exact h _ _ hh
    | exact Calls.mono hh (fun e w'' he=>by cases e<;>first|exact h _ _ he|exact hQ _ _ _ he|exact letsOut_mono hQ he)
    | exact Rows.mono hh (fun _ _ he=>h _ _ he)
 | halt x w'=>cases x<;>simp only [Oper.upon] at hh ⊢<;>exact hQ _ _ _ hh
theorem wpList_mono' (hQ:∀ e a w,Q e a w→Q' e a w):∀ (rest:List Oper) (a:Act) (w:World),wpList P ops Q rest a w→wpList P ops Q' rest a w
 | [],a,w,h=>hQ _ _ _ h
 | o::rest,a,w,h=>by
  unfold wpList at h ⊢
  split at h
  ·rename_i hw
   rw [if_pos hw]
   exact h.imp (operWp_mono (wpList_mono' hQ rest) hQ) (fun ⟨h1,h2⟩=>⟨h1,letsOut_mono hQ h2⟩)
  ·rename_i hw
   rw [if_neg hw]
   exact wpList_mono' hQ rest _ _ h
end
theorem holdL_join {P:Program} {n:Nat} {w0:World} {ops:Array Oper} {rest:List Oper} {Q:Post} {g:Env} {L:Hp} (p:Env→Hp→Prop) (h1:HoldL P n w0 ops rest (endQ p) g L) (h2:∀ g' L',p g' L'→Q .normal g' L'):HoldL P n w0 ops rest Q g L:=fun a w ha hw =>
 wpList_mono' (fun e _ _ ⟨g',L',hq,ha',hw'⟩=>⟨g',L',by cases e<;>first|exact h2 _ _ hq|exact hq.elim,ha',hw'⟩) rest a w (h1 a w ha hw)
instance (p:Env→Hp→Prop) (Q:Post) [h:NP Q]:NP (fallQ p Q):=⟨h.out⟩
attribute [local irreducible] Hold HoldL HoldW
section
variable {β:Type}
theorem get_U {A U R:List β} {i:Nat} (hi:i<U.length):(A++(U++R))[A.length+i]?=some U[i]:=by
 rw [List.getElem?_append_right (by omega),show A.length+i - A.length=i by omega,List.getElem?_append_left hi,List.getElem?_eq_getElem hi]
theorem get_V {A U V R:List β} {j:Nat} (hj:j<V.length):(A++(U++(V++R)))[A.length+U.length+j]?=some V[j]:=by
 rw [← List.append_assoc A U,← List.length_append]
 exact get_U hj
end
section
variable (w0:World) (X:Hp) (bl n cap:Nat) (spare:List Value) (k0:Nat) [hf:Fun Tryz.prog k0] (caps:List Value) (c:Kpt→Kpt→Int)
 (hp:∀ Y x y e f,Rep.rd w0 Y x e→Rep.rd w0 Y y f→Spec Tryz.prog w0 k0 (.agg e.toArray::.agg f.toArray::caps) X (fun r h'=>r=.int .i64 (c x y)∧X=h'))
include hp
theorem symMergeKpt_spec (o:Ordr (ltc c)) (hmax:n≤1000000000):∀ (N a m b:Nat) (A U V C:List (Kpt × List Value)),U.length+V.length=N→0<U.length→0<V.length→AllZ w0 X (A++(U++(V++C)))→Srt (ltc c) U→Srt (ltc c) V→a=A.length→m=A.length+U.length→b=A.length+U.length+V.length →
  n=A.length+U.length+V.length+C.length →
  Spec Tryz.prog w0 275 [.slice (some ⟨bl,0,none⟩) n cap,.int .i64 (a:Int),.int .i64 (m:Int),.int .i64 (b:Int),.func (.func k0) #[] caps.toArray] (X+arrKpt bl (A++(U++(V++C))) spare)
   (fun r h'=>r=.tuple #[]∧∃ W,W.Perm (U++V)∧Srt (ltc c) W∧X+arrKpt bl (A++(W++C)) spare=h'):=by
 intro N
 induction N using Nat.strongRecOn with
 | _ N ih =>
 intro a m b A U V C hN hU0 hV0 hz hu hv ha hm hb hn
 have hlen:(A++(U++(V++C))).length=n:=by simp only [List.length_append]; omega
 have gU:∀ i (hi:i<U.length),(A++(U++(V++C)))[a+i]?=some U[i]:=fun i hi=>by rw [ha]; exact get_U hi
 have gV:∀ j (hj:j<V.length),(A++(U++(V++C)))[m+j]?=some V[j]:=fun j hj=>by rw [hm]; exact get_V hj
 have hzz:=hz
 simp only [allZ_app] at hzz
 obtain ⟨zA,zU,zV,zC⟩:=hzz
 refine zN Tryz.func275 G Tryz.ntmps275 Tryz.results275 G fun fr=>?_
 repeat (first|refine zF ?_|refine zB ?_|refine zK G G G ?_|refine L_sub G G (by omega) (by omega) G G ?_)
 refine yG G G (pv_eql G G) (fun n1=>?_) (fun n1=>?_)
 ·obtain ⟨x,rfl⟩:∃ x,U=[x]:=by
   match U,(show U.length=1 by omega) with
   | [x],_=>exact ⟨x,rfl⟩
  have zx:Rep.rd w0 X x.1 x.2:=zU x (by simp)
  have hma:m=a+1:=by rw [hm,ha]; rfl
  have hbm:b=m+V.length:=by rw [hb,hm]
  have hgx:=gU 0 (by simp)
  rw [Nat.add_zero,List.getElem_cons_zero] at hgx
  have hatx:=z_at hz (b:=bl) (spare:=spare) (E:=73) (fz:=(0,0)) hgx
  have hqx:=z_len zx (sz:=Rep.size Kpt) (by simp)
  repeat (first|refine zF ?_|refine zR ?_|refine zB ?_|refine zE ?_|refine zK G G G ?_|refine zJ G ?_)
  refine hold_loop (fun q g L=>∃ (i j:Nat) (R:Hp),i≤j∧j≤b∧m≤i∧q=j - i∧(∀ (h:m<i) (h2:i - 1 - m<V.length),ltc c V[i - 1 - m] x)∧(∀ h:j - m<V.length,¬ ltc c V[j - m] x) ∧
    g=[(0,.slice (some ⟨bl,0,none⟩) n cap),(1,.int .i64 ((a:Nat):Int)),(4,.func (.func k0) #[] caps.toArray),(10,.int .i64 ((i:Nat):Int)),(11,.int .i64 ((j:Nat):Int))]∧L=X+arrKpt bl (A++([x]++(V++C))) spare+fr+R) _ _
   ⟨m,b,0,by omega,by omega,by omega,rfl,fun h=>absurd h (by omega),fun h=>absurd h (by omega),rfl,(yB _).symm⟩ (by repeat (first|exact zT _|refine zO G ?_)) ?_
  rintro q g L ⟨i,j,R,hij,hjb,him,rfl,hlo,hhi,rfl,rfl⟩
  repeat (first|refine zF ?_|refine zB ?_|refine zK G G G ?_)
  refine yG G G (pv_lss G G) (fun n2=>?_) (fun n2=>?_)
  ·have hh:(i+j) / 2 - m<V.length:=by omega
   have hgh:=gV ((i+j) / 2 - m) hh
   rw [show m+((i+j) / 2 - m)=(i+j) / 2 by omega] at hgh
   have zh:Rep.rd w0 X V[(i+j) / 2 - m].1 V[(i+j) / 2 - m].2:=zV _ (List.getElem_mem hh)
   have hath:=z_at hz (b:=bl) (spare:=spare) (E:=73) (fz:=(0,0)) hgh
   have hqh:=z_len zh (sz:=Rep.size Kpt) (by simp)
   repeat (first|refine zF ?_|refine zR ?_|refine zB ?_|refine zE ?_|refine zK G G G ?_|refine zP ?_|refine zJ G ?_|refine L_add G G (by omega) (by omega) G G ?_)
   refine yH G G (pv_conv_to G (m:=((i+j:Nat):Int)) (by rw [u64_in (by omega) (by omega)]; omega)) ?_
   refine yH G G (pv_shr1 G G) ?_
   refine yH G G (pv_conv_in G (by omega) (by omega)) ?_
   repeat (first|refine zF ?_|refine zE ?_|refine zK G G G ?_)
   refine yC [9] [0,1,2,3,4,5,6,7,8,9,10] (by kernel_rfl) G (by kernel_rfl) (by kernel_rfl) ?_
   repeat (first|refine yI G G G G G ?_|refine W_idx G G G (by omega) G G G ?_)
   refine W_atA G G hath hqh G G G G ?_
   repeat (first|refine yI G G G G G ?_|refine W_idx G G G (by omega) G G G ?_)
   refine W_atA G G hatx hqx G G G G ?_
   skip
   refine W_call G G G G (zQ G G (by simp<;>rfl)) (hp X V[(i+j) / 2 - m].1 x.1 _ _ zh zx) (Kept.all _) ?_
   rintro _ _ ⟨rfl,rfl⟩
   refine ⟨(by repeat (first|exact trivial|exact zG G (zS G)|exact zL G G G|exact zX G (by assumption) G|exact zH G (by assumption) G|exact zH G (by assumption) (by assumption)|refine ⟨?_,?_⟩)),?_⟩
   refine W_dec G G G G (pv_lss G G) (fun n3=>?_) (fun n3=>?_)
   ·repeat (refine yJ ?_)
    repeat (first|refine zB ?_|refine zE ?_|refine zK G G G ?_|refine zJ G ?_|refine L_add G G (by omega) (by omega) G G ?_)
    exact ⟨j - ((i+j) / 2+1),_,by omega,(by repeat (first|exact zT _|refine zO G ?_)),(i+j) / 2+1,j,_,by omega,by omega,by omega,rfl,fun _ _=>by simpa using n3,hhi,rfl,yK.out⟩
   ·repeat (refine yJ ?_)
    repeat (first|refine zB ?_|refine zE ?_|refine zK G G G ?_|refine zI G ?_)
    exact ⟨(i+j) / 2 - i,_,by omega,(by repeat (first|exact zT _|refine zO G ?_)),i,(i+j) / 2,_,by omega,by omega,by omega,rfl,hlo,fun _=>n3,rfl,yK.out⟩
  ·have hji:j=i:=by omega
   subst hji
   have hs1:V.take (j - m)++V.drop (j - m)=V:=List.take_append_drop _ _
   have l1:(V.take (j - m)).length=j - m:=by rw [List.length_take]; omega
   have l2:(V.drop (j - m)).length=V.length - (j - m):=List.length_drop ..
   have zV1:AllZ w0 X (V.take (j - m)):=zV.take _
   have zV2:AllZ w0 X (V.drop (j - m)):=zV.drop _
   have hW:Srt (ltc c) (V.take (j - m)++x::V.drop (j - m)):=by
    refine srt_mid (by rw [hs1]; exact hv) ?_ ?_
    ·refine all_le_last o (srt_take hv _) (fun h=>o.asym ?_)
     have e:(V.take (j - m))[(V.take (j - m)).length - 1]=V[j - 1 - m]'(by omega):=by
      rw [List.getElem_take]; congr 1; omega
     rw [e]
     exact hlo (by omega) (by omega)
    ·refine head_le_all o (srt_drop hv _) (fun h=>?_)
     have e:(V.drop (j - m))[0]=V[j - m]'(by omega):=by rw [List.getElem_drop]; congr 1
     rw [e]
     exact hhi (by omega)
   have hWp:(V.take (j - m)++x::V.drop (j - m)).Perm ([x]++V):=by
    refine (List.perm_middle).trans ?_
    rw [hs1]; exact List.Perm.refl _
   rw [← hs1]
   generalize V.take (j - m)=V1 at *
   generalize V.drop (j - m)=V2 at *
   repeat (first|refine zF ?_|refine zR ?_|refine yD ?_|refine zB ?_|refine zE ?_|refine zK G G G ?_|refine zI G ?_)
   refine hold_count V1.length (fun t g L=>∃ (R:Hp),g=[(0,.slice (some ⟨bl,0,none⟩) n cap),(10,.int .i64 ((j:Nat):Int)),(13,.int .i64 ((a+t:Nat):Int))]∧L=X+arrKpt bl (A++(V1.take t++x::(V1.drop t++(V2++C)))) spare+fr+R) _
    ⟨_,rfl,by simp only [List.take_zero,List.drop_zero,List.nil_append,List.cons_append,List.append_assoc]; exact yK.out⟩ (by repeat (first|exact zT _|refine zO G ?_)) ?_
   clear R
   rintro t g L ht ⟨R,rfl,rfl⟩
   repeat (first|refine zF ?_|refine zB ?_|refine zK G G G ?_|refine L_sub G G (by omega) (by omega) G G ?_)
   refine yG G G (pv_lss G G) (fun n3=>?_) (fun n3=>?_)
   ·have hx:t<V1.length:=by omega
    have zy:Rep.rd w0 X V1[t].1 V1[t].2:=zV1 _ (List.getElem_mem hx)
    have e1:A++(V1.take t++x::(V1.drop t++(V2++C)))=(A++V1.take t)++x::V1[t]::(V1.drop (t+1)++(V2++C)):=by
     rw [List.drop_eq_getElem_cons hx]; simp only [List.append_assoc,List.cons_append]
    have e2:A++(V1.take (t+1)++x::(V1.drop (t+1)++(V2++C)))=(A++V1.take t)++V1[t]::x::(V1.drop (t+1)++(V2++C)):=by
     rw [List.take_succ_eq_append_getElem hx]; simp only [List.append_assoc,List.cons_append,List.nil_append]
    have hlP:(A++V1.take t).length=a+t:=by rw [List.length_append,List.length_take]; omega
    have hz2:AllZ w0 X ((A++V1.take t)++x::V1[t]::(V1.drop (t+1)++(V2++C))):=by
     simp only [allZ_app,allZ_cons]
     exact ⟨⟨zA,zV1.take _⟩,zx,zy,zV1.drop _,zV2,zC⟩
    have hlen2:((A++V1.take t)++x::V1[t]::(V1.drop (t+1)++(V2++C))).length=n:=by
     have:=congrArg List.length hs1
     simp only [List.length_append,List.length_cons,List.length_take,List.length_drop,List.length_nil] at this hn ⊢; omega
    rw [e1]
    generalize V1[t]=y at *
    generalize A++V1.take t=P at *
    generalize hS:V1.drop (t+1)++(V2++C)=S at *
    obtain ⟨g1,g2⟩:=adj_get P S x y
    have gs:=adj_set P S x y
    rw [hlP] at g1 g2 gs
    have hat1:=z_at hz2 (b:=bl) (spare:=spare) (E:=73) (fz:=(0,0)) g1
    have hat2:=z_at hz2 (b:=bl) (spare:=spare) (E:=73) (fz:=(0,0)) g2
    have hq1:=z_len zx (sz:=Rep.size Kpt) (by simp)
    have hq2:=z_len zy (sz:=Rep.size Kpt) (by simp)
    repeat (first|refine zF ?_|refine zR ?_|refine zE ?_|refine zP ?_|refine zJ G ?_)
    refine yC [15,17] [0,1,2,3,4,5,6,7,8,9,10,11,12,13,14,15,16,17] (by kernel_rfl) G (by kernel_rfl) (by kernel_rfl) ?_
    repeat (first|refine yI G G G G G ?_|refine yE G G G G (pv_add G G (by omega) (by omega)) ?_)
    rw [show (((a+t:Nat):Int)+1)=((a+t+1:Nat):Int) by omega]
    repeat (refine W_idx G G G (by omega) G G G ?_)
    refine W_atA G G hat2 hq2 G G G G ?_
    repeat (first|refine yI G G G G G ?_|refine W_idx G G G (by omega) G G G ?_)
    refine W_atA G G hat1 hq1 G G G G ?_
    repeat (refine W_idx G G G (by omega) G G G ?_)
    refine W_eff (W':=?wk1) G G G G (ev_storeZ hz2 (by omega) zy G G G) ?wkk1 ?wrest1
    case wkk1=>repeat (first|exact Kept.nil|refine Kept.drop (by kernel_rfl) ?_|refine Kept.keep ?_)
    rintro _ _ rfl
    refine ⟨(by repeat (first|exact trivial|exact zG G (zS G)|exact zL G G G|exact zX G (by assumption) G|exact zH G (by assumption) G|exact zH G (by assumption) (by assumption)|refine ⟨?_,?_⟩)),?_⟩
    repeat (refine W_idx G G G (by omega) G G G ?_)
    refine W_eff (W':=?wk2) G G G G (ev_storeZ (hz2.set zy _) (by rw [List.length_set]; omega) zx G G G) ?wkk2 ?wrest2
    case wkk2=>repeat (first|exact Kept.nil|refine Kept.drop (by kernel_rfl) ?_|refine Kept.keep ?_)
    rintro _ _ rfl
    refine ⟨(by repeat (first|exact trivial|exact zG G (zS G)|exact zL G G G|exact zX G (by assumption) G|exact zH G (by assumption) G|exact zH G (by assumption) (by assumption)|refine ⟨?_,?_⟩)),?_⟩
    rw [gs,← e2]
    repeat (refine yJ ?_)
    repeat (first|refine zB ?_|refine zE ?_|refine zK G G G ?_|refine L_add G G (by omega) (by omega) G G ?_)
    exact ⟨by omega,_,(by repeat (first|exact zT _|refine zO G ?_)),_,rfl,by first|(rw [hS]; done)|(rw [hS]; exact yK.out)⟩
   ·rw [List.take_of_length_le (by omega),List.drop_of_length_le (by omega),List.nil_append,show A++(V1++x::(V2++C))=A++((V1++x::V2)++C) by simp only [List.append_assoc,List.cons_append]]
    repeat (first|refine yD ?_|refine zE ?_|refine zM ?_|refine zI G ?_)
    exact ⟨[],_,_,trivial,⟨rfl,_,by rw [hs1]; exact hWp,hW,rfl⟩,yK.out⟩
 ·repeat (first|refine zF ?_|refine zB ?_|refine zE ?_|refine zK G G G ?_|refine zP ?_|refine zI G ?_|refine L_sub G G (by omega) (by omega) G G ?_)
  refine yG G G (pv_eql G G) (fun n2=>?_) (fun n2=>?_)
  ·obtain ⟨y,rfl⟩:∃ y,V=[y]:=by
    match V,(show V.length=1 by omega) with
    | [y],_=>exact ⟨y,rfl⟩
   have zy:Rep.rd w0 X y.1 y.2:=zV y (by simp)
   have hmU:m=a+U.length:=by omega
   have hgy:=gV 0 (by simp)
   rw [Nat.add_zero,List.getElem_cons_zero] at hgy
   have haty:=z_at hz (b:=bl) (spare:=spare) (E:=73) (fz:=(0,0)) hgy
   have hqy:=z_len zy (sz:=Rep.size Kpt) (by simp)
   repeat (first|refine zF ?_|refine zR ?_|refine zB ?_|refine zE ?_|refine zK G G G ?_|refine zJ G ?_)
   refine hold_loop (fun q g L=>∃ (i j:Nat) (R:Hp),i≤j∧j≤m∧a≤i∧q=j - i∧(∀ (h:a<i) (h2:i - 1 - a<U.length),¬ ltc c y U[i - 1 - a])∧(∀ h:j - a<U.length,ltc c y U[j - a]) ∧
     g=[(0,.slice (some ⟨bl,0,none⟩) n cap),(2,.int .i64 ((m:Nat):Int)),(4,.func (.func k0) #[] caps.toArray),(14,.int .i64 ((i:Nat):Int)),(15,.int .i64 ((j:Nat):Int))]∧L=X+arrKpt bl (A++(U++([y]++C))) spare+fr+R) _ _
    ⟨a,m,0,by omega,by omega,by omega,rfl,fun h=>absurd h (by omega),fun h=>absurd h (by omega),rfl,(yB _).symm⟩ (by repeat (first|exact zT _|refine zO G ?_)) ?_
   rintro q g L ⟨i,j,R,hij,hjb,him,rfl,hlo,hhi,rfl,rfl⟩
   repeat (first|refine zF ?_|refine zB ?_|refine zK G G G ?_)
   refine yG G G (pv_lss G G) (fun n3=>?_) (fun n3=>?_)
   ·have hh:(i+j) / 2 - a<U.length:=by omega
    have hgh:=gU ((i+j) / 2 - a) hh
    rw [show a+((i+j) / 2 - a)=(i+j) / 2 by omega] at hgh
    have zh:Rep.rd w0 X U[(i+j) / 2 - a].1 U[(i+j) / 2 - a].2:=zU _ (List.getElem_mem hh)
    have hath:=z_at hz (b:=bl) (spare:=spare) (E:=73) (fz:=(0,0)) hgh
    have hqh:=z_len zh (sz:=Rep.size Kpt) (by simp)
    repeat (first|refine zF ?_|refine zR ?_|refine zB ?_|refine zE ?_|refine zK G G G ?_|refine zP ?_|refine zJ G ?_|refine L_add G G (by omega) (by omega) G G ?_)
    refine yH G G (pv_conv_to G (m:=((i+j:Nat):Int)) (by rw [u64_in (by omega) (by omega)]; omega)) ?_
    refine yH G G (pv_shr1 G G) ?_
    refine yH G G (pv_conv_in G (by omega) (by omega)) ?_
    repeat (first|refine zF ?_|refine zE ?_|refine zK G G G ?_)
    refine yC [9] [0,1,2,3,4,5,6,7,8,9,10,11] (by kernel_rfl) G (by kernel_rfl) (by kernel_rfl) ?_
    repeat (first|refine yI G G G G G ?_|refine W_idx G G G (by omega) G G G ?_)
    refine W_atA G G haty hqy G G G G ?_
    repeat (first|refine yI G G G G G ?_|refine W_idx G G G (by omega) G G G ?_)
    refine W_atA G G hath hqh G G G G ?_
    skip
    refine W_call G G G G (zQ G G (by simp<;>rfl)) (hp X y.1 U[(i+j) / 2 - a].1 _ _ zy zh) (Kept.all _) ?_
    rintro _ _ ⟨rfl,rfl⟩
    refine ⟨(by repeat (first|exact trivial|exact zG G (zS G)|exact zL G G G|exact zX G (by assumption) G|exact zH G (by assumption) G|exact zH G (by assumption) (by assumption)|refine ⟨?_,?_⟩)),?_⟩
    refine W_dec G G G G (pv_lss G G) (fun n4=>?_) (fun n4=>?_)
    ·repeat (first|refine yJ ?_|refine yI G G G G G ?_)
     repeat (first|refine zB ?_|refine zE ?_|refine zK G G G ?_|refine zI G ?_)
     exact ⟨(i+j) / 2 - i,_,by omega,(by repeat (first|exact zT _|refine zO G ?_)),i,(i+j) / 2,_,by omega,by omega,by omega,rfl,hlo,fun _=>n4,rfl,yK.out⟩
    ·repeat (first|refine yJ ?_|refine yI G G G G G ?_)
     repeat (first|refine zB ?_|refine zE ?_|refine zK G G G ?_|refine zJ G ?_|refine L_add G G (by omega) (by omega) G G ?_)
     exact ⟨j - ((i+j) / 2+1),_,by omega,(by repeat (first|exact zT _|refine zO G ?_)),(i+j) / 2+1,j,_,by omega,by omega,by omega,rfl,fun _ _=>by simpa using n4,hhi,rfl,yK.out⟩
   ·have hji:j=i:=by omega
    subst hji
    have hs1:U.take (j - a)++U.drop (j - a)=U:=List.take_append_drop _ _
    have l1:(U.take (j - a)).length=j - a:=by rw [List.length_take]; omega
    have l2:(U.drop (j - a)).length=U.length - (j - a):=List.length_drop ..
    have zU1:AllZ w0 X (U.take (j - a)):=zU.take _
    have zU2:AllZ w0 X (U.drop (j - a)):=zU.drop _
    have hW:Srt (ltc c) (U.take (j - a)++y::U.drop (j - a)):=by
     refine srt_mid (by rw [hs1]; exact hu) ?_ ?_
     ·refine all_le_last o (srt_take hu _) (fun h=>?_)
      have e:(U.take (j - a))[(U.take (j - a)).length - 1]=U[j - 1 - a]'(by omega):=by
       rw [List.getElem_take]; congr 1; omega
      rw [e]
      exact hlo (by omega) (by omega)
     ·refine head_le_all o (srt_drop hu _) (fun h=>o.asym ?_)
      have e:(U.drop (j - a))[0]=U[j - a]'(by omega):=by rw [List.getElem_drop]; congr 1
      rw [e]
      exact hhi (by omega)
    have hWp:(U.take (j - a)++y::U.drop (j - a)).Perm (U++[y]):=by
     refine (List.perm_middle).trans ?_
     rw [hs1]; exact (List.perm_append_comm (l₁:=[y]) (l₂:=U))
    rw [← hs1]
    generalize U.take (j - a)=U1 at *
    generalize U.drop (j - a)=U2 at *
    repeat (first|refine zF ?_|refine zR ?_|refine yD ?_|refine zB ?_|refine zE ?_|refine zK G G G ?_|refine zI G ?_)
    refine hold_count U2.length (fun t g L=>∃ (k:Nat) (Wa Wb:List (Kpt × List Value)) (R:Hp),U2=Wa++Wb∧Wb.length=t∧k=a+U1.length+Wa.length∧g=[(0,.slice (some ⟨bl,0,none⟩) n cap),(14,.int .i64 ((j:Nat):Int)),(17,.int .i64 ((k:Nat):Int))]∧L=X+arrKpt bl (A++(U1++(Wa++y::(Wb++C)))) spare+fr+R) _
     ⟨m,U2,[],_,by rw [List.append_nil],rfl,by omega,rfl,by simp only [List.nil_append,List.cons_append,List.append_assoc]; exact yK.out⟩ (by repeat (first|exact zT _|refine zO G ?_)) ?_
    clear R
    rintro t g L ht ⟨k,Wa,Wb,R,hWab,hWb,hk,rfl,rfl⟩
    have hl12:U2.length=Wa.length+Wb.length:=by rw [hWab,List.length_append]
    have zab:=zU2
    rw [hWab,allZ_app] at zab
    repeat (first|refine zF ?_|refine zB ?_|refine zK G G G ?_)
    refine yG G G (pv_gtr G G) (fun n4=>?_) (fun n4=>?_)
    ·obtain ⟨W0,x,rfl⟩:∃ W0 x,Wa=W0++[x]:=⟨Wa.dropLast,Wa.getLast (by intro h; rw [h] at hk; simp at hk; omega),(List.dropLast_concat_getLast _).symm⟩
     rw [List.length_append,List.length_singleton] at hk hl12
     have zx:Rep.rd w0 X x.1 x.2:=zab.1 x (by simp)
     have e1:A++(U1++((W0++[x])++y::(Wb++C)))=(A++(U1++W0))++x::y::(Wb++C):=by simp only [List.append_assoc,List.cons_append,List.nil_append]
     have hz2:AllZ w0 X ((A++(U1++W0))++x::y::(Wb++C)):=by
      simp only [allZ_app,allZ_cons]
      exact ⟨⟨zA,zU1,(allZ_app.1 zab.1).1⟩,zx,zy,zab.2,zC⟩
     have hlen2:((A++(U1++W0))++x::y::(Wb++C)).length=n:=by
      have:=congrArg List.length hs1
      simp only [List.length_append,List.length_cons,List.length_nil] at this hn hl12 ⊢; omega
     have hlP:(A++(U1++W0)).length=k - 1:=by simp only [List.length_append]; omega
     obtain ⟨g1,g2⟩:=adj_get (A++(U1++W0)) (Wb++C) x y
     have gs:=adj_set' (A++(U1++W0)) (Wb++C) x y
     rw [hlP] at g1 gs
     rw [hlP,show k - 1+1=k by omega] at g2
     rw [show k - 1+1=k by omega] at gs
     have hat1:=z_at hz2 (b:=bl) (spare:=spare) (E:=73) (fz:=(0,0)) g1
     have hat2:=z_at hz2 (b:=bl) (spare:=spare) (E:=73) (fz:=(0,0)) g2
     have hq1:=z_len zx (sz:=Rep.size Kpt) (by simp)
     have hq2:=z_len zy (sz:=Rep.size Kpt) (by simp)
     rw [e1]
     repeat (first|refine zF ?_|refine zR ?_|refine zE ?_|refine zP ?_|refine zJ G ?_)
     refine yC [15,17] [0,1,2,3,4,5,6,7,8,9,10,11,12,13,14,15,16,17] (by kernel_rfl) G (by kernel_rfl) (by kernel_rfl) ?_
     repeat (refine yI G G G G G ?_)
     refine yE G G G G (pv_sub G G (by omega) (by omega)) ?_
     rw [show ((k:Int) - 1)=((k - 1:Nat):Int) by omega]
     repeat (refine yI G G G G G ?_)
     refine yE G G G G (pv_sub G G (by omega) (by omega)) ?_
     rw [show ((k:Int) - 1)=((k - 1:Nat):Int) by omega]
     repeat (refine W_idx G G G (by omega) G G G ?_)
     refine W_atA G G hat1 hq1 G G G G ?_
     repeat (first|refine yI G G G G G ?_|refine W_idx G G G (by omega) G G G ?_)
     refine W_atA G G hat2 hq2 G G G G ?_
     repeat (refine W_idx G G G (by omega) G G G ?_)
     refine W_eff (W':=?wk3) G G G G (ev_storeZ hz2 (by omega) zx G G G) ?wkk3 ?wrest3
     case wkk3=>repeat (first|exact Kept.nil|refine Kept.drop (by kernel_rfl) ?_|refine Kept.keep ?_)
     rintro _ _ rfl
     refine ⟨(by repeat (first|exact trivial|exact zG G (zS G)|exact zL G G G|exact zX G (by assumption) G|exact zH G (by assumption) G|exact zH G (by assumption) (by assumption)|refine ⟨?_,?_⟩)),?_⟩
     repeat (refine W_idx G G G (by omega) G G G ?_)
     refine W_eff (W':=?wk4) G G G G (ev_storeZ (hz2.set zx _) (by rw [List.length_set]; omega) zy G G G) ?wkk4 ?wrest4
     case wkk4=>repeat (first|exact Kept.nil|refine Kept.drop (by kernel_rfl) ?_|refine Kept.keep ?_)
     rintro _ _ rfl
     refine ⟨(by repeat (first|exact trivial|exact zG G (zS G)|exact zL G G G|exact zX G (by assumption) G|exact zH G (by assumption) G|exact zH G (by assumption) (by assumption)|refine ⟨?_,?_⟩)),?_⟩
     rw [gs,show (A++(U1++W0))++y::x::(Wb++C)=A++(U1++(W0++y::((x::Wb)++C))) by simp only [List.append_assoc,List.cons_append,List.nil_append]]
     repeat (refine yJ ?_)
     repeat (first|refine zB ?_|refine zE ?_|refine zK G G G ?_|refine L_sub G G (by omega) (by omega) G G ?_)
     rw [show ((k:Int) - 1)=((k - 1:Nat):Int) by omega]
     exact ⟨by omega,_,(by repeat (first|exact zT _|refine zO G ?_)),k - 1,W0,x::Wb,_,by rw [hWab]; simp,by rw [List.length_cons,hWb],by omega,rfl,yK.out⟩
    ·have hWa:Wa=[]:=List.eq_nil_of_length_eq_zero (by omega)
     subst hWa
     rw [List.nil_append] at hWab
     subst hWab
     rw [show A++(U1++([]++y::(U2++C)))=A++((U1++y::U2)++C) by simp only [List.append_assoc,List.cons_append,List.nil_append]]
     repeat (first|refine yD ?_|refine zE ?_|refine zM ?_|refine zI G ?_)
     exact ⟨[],_,_,trivial,⟨rfl,_,by rw [hs1]; exact hWp,hW,rfl⟩,yK.out⟩
  ·have hN2:2≤U.length∧2≤V.length:=by omega
   repeat (first|refine zF ?_|refine zB ?_|refine zE ?_|refine zK G G G ?_|refine zP ?_|refine zI G ?_|refine L_add G G (by omega) (by omega) G G ?_)
   refine yH G G (pv_conv_to G (m:=((a+b:Nat):Int)) (by rw [u64_in (by omega) (by omega)]; omega)) ?_
   refine yH G G (pv_shr1 G G) ?_
   refine yH G G (pv_conv_in G (by omega) (by omega)) ?_
   obtain ⟨mid,hmid⟩:∃ x,x=(a+b) / 2:=⟨_,rfl⟩
   rw [← hmid]
   repeat (first|refine zF ?_|refine zB ?_|refine zE ?_|refine zK G G G ?_|refine L_add G G (by omega) (by omega) G G ?_)
   rw [show ((mid:Int)+(m:Int))=((mid+m:Nat):Int) by omega]
   obtain ⟨s0,r0,hsr⟩:∃ s0 r0:Nat,(mid<m∧s0=mid+m - b∧r0=mid)∨(¬ mid<m∧s0=a∧r0=m):=by
    by_cases h:mid<m
    ·exact ⟨_,_,.inl ⟨h,rfl,rfl⟩⟩
    ·exact ⟨_,_,.inr ⟨h,rfl,rfl⟩⟩
   refine yH G G (pv_gtr G G) ?_
   repeat (refine zE ?_)
   refine hold_join (fun g' L'=>∃ (R:Hp),Sub g' [(0,.slice (some ⟨bl,0,none⟩) n cap),(1,.int .i64 ((a:Nat):Int)),(2,.int .i64 ((m:Nat):Int)),(3,.int .i64 ((b:Nat):Int)),(4,.func (.func k0) #[] caps.toArray),(18,.int .i64 ((mid:Nat):Int)),(19,.int .i64 ((mid+m:Nat):Int)),(20,.int .i64 ((s0:Nat):Int)),(21,.int .i64 ((r0:Nat):Int))]∧L'=X+arrKpt bl (A++(U++(V++C))) spare+fr+R) ?_ ?_
   ·refine hold_cond_d G (fun n3=>?_) (fun n3=>?_)
    ·repeat (first|refine zF ?_|refine zB ?_|refine zE ?_|refine zK G G G ?_|refine L_sub G G (by omega) (by omega) G G ?_)
     rcases hsr with ⟨q1,q2,q3⟩|⟨q1,q2,q3⟩
     ·rw [show (((mid+m:Nat):Int) - (b:Int))=((s0:Nat):Int) by omega]
      subst q3
      exact ⟨0,(by repeat (first|exact zT _|refine zO G ?_)),(yB _).symm⟩
     ·omega
    ·repeat (first|refine zF ?_|refine zB ?_|refine zE ?_|refine zK G G G ?_)
     rcases hsr with ⟨q1,q2,q3⟩|⟨q1,q2,q3⟩
     ·omega
     ·subst q2 q3
      exact ⟨0,(by repeat (first|exact zT _|refine zO G ?_)),(yB _).symm⟩
   ·rintro g' _ ⟨R,hsub,rfl⟩
    refine hold_env hsub ?_
    clear hsub g'
    repeat (first|refine zF ?_|refine zB ?_|refine zE ?_|refine zK G G G ?_|refine L_sub G G (by omega) (by omega) G G ?_)
    rw [show (((mid+m:Nat):Int) - 1)=((mid+m - 1:Nat):Int) by omega]
    refine hold_fall (fun g' L'=>∃ (s:Nat) (R:Hp),s0≤s∧s≤r0∧(s=s0∨∀ k,s=k+1→∀ (h1:k - a<U.length) (h2:mid+m - 1 - k - m<V.length),¬ ltc c V[mid+m - 1 - k - m] U[k - a])∧(s=r0∨∀ (h1:s - a<U.length) (h2:mid+m - 1 - s - m<V.length),ltc c V[mid+m - 1 - s - m] U[s - a]) ∧
     Sub g' [(0,.slice (some ⟨bl,0,none⟩) n cap),(1,.int .i64 ((a:Nat):Int)),(2,.int .i64 ((m:Nat):Int)),(3,.int .i64 ((b:Nat):Int)),(4,.func (.func k0) #[] caps.toArray),(18,.int .i64 ((mid:Nat):Int)),(19,.int .i64 ((mid+m:Nat):Int)),(20,.int .i64 ((s:Nat):Int))]∧L'=X+arrKpt bl (A++(U++(V++C))) spare+fr+R) ?_ ?_
    ·repeat (refine zR ?_)
     refine hold_loop (fun q g L=>∃ (s r:Nat) (R:Hp),s0≤s∧s≤r∧r≤r0∧q=r - s∧(s=s0∨∀ k,s=k+1→∀ (h1:k - a<U.length) (h2:mid+m - 1 - k - m<V.length),¬ ltc c V[mid+m - 1 - k - m] U[k - a])∧(r=r0∨∀ (h1:r - a<U.length) (h2:mid+m - 1 - r - m<V.length),ltc c V[mid+m - 1 - r - m] U[r - a]) ∧
      g=[(0,.slice (some ⟨bl,0,none⟩) n cap),(1,.int .i64 ((a:Nat):Int)),(2,.int .i64 ((m:Nat):Int)),(3,.int .i64 ((b:Nat):Int)),(4,.func (.func k0) #[] caps.toArray),(18,.int .i64 ((mid:Nat):Int)),(19,.int .i64 ((mid+m:Nat):Int)),(20,.int .i64 ((s:Nat):Int)),(21,.int .i64 ((r:Nat):Int)),(22,.int .i64 ((mid+m - 1:Nat):Int))]∧L=X+arrKpt bl (A++(U++(V++C))) spare+fr+R) _ _
      ⟨s0,r0,_,by omega,by omega,by omega,rfl,.inl G,.inl G,rfl,yK.out⟩ (by repeat (first|exact zT _|refine zO G ?_)) ?_
     clear R
     rintro q g L ⟨s,r,R,g1,g2,g3,rfl,f1,f2,rfl,rfl⟩
     repeat (first|refine zF ?_|refine zB ?_|refine zK G G G ?_)
     refine yG G G (pv_lss G G) (fun n3=>?_) (fun n3=>?_)
     ·have hcU:(s+r) / 2 - a<U.length:=by omega
      have hcV:mid+m - 1 - (s+r) / 2 - m<V.length:=by omega
      have hgU:=gU ((s+r) / 2 - a) hcU
      rw [show a+((s+r) / 2 - a)=(s+r) / 2 by omega] at hgU
      have hgV:=gV (mid+m - 1 - (s+r) / 2 - m) hcV
      rw [show m+(mid+m - 1 - (s+r) / 2 - m)=mid+m - 1 - (s+r) / 2 by omega] at hgV
      have z1:Rep.rd w0 X U[(s+r) / 2 - a].1 U[(s+r) / 2 - a].2:=zU _ (List.getElem_mem hcU)
      have z2:Rep.rd w0 X V[mid+m - 1 - (s+r) / 2 - m].1 V[mid+m - 1 - (s+r) / 2 - m].2:=zV _ (List.getElem_mem hcV)
      have hat1:=z_at hz (b:=bl) (spare:=spare) (E:=73) (fz:=(0,0)) hgU
      have hat2:=z_at hz (b:=bl) (spare:=spare) (E:=73) (fz:=(0,0)) hgV
      have hq1:=z_len z1 (sz:=Rep.size Kpt) (by simp)
      have hq2:=z_len z2 (sz:=Rep.size Kpt) (by simp)
      repeat (first|refine zF ?_|refine zR ?_|refine zB ?_|refine zE ?_|refine zK G G G ?_|refine zP ?_|refine zJ G ?_|refine L_add G G (by omega) (by omega) G G ?_)
      refine yH G G (pv_conv_to G (m:=((s+r:Nat):Int)) (by rw [u64_in (by omega) (by omega)]; omega)) ?_
      refine yH G G (pv_shr1 G G) ?_
      refine yH G G (pv_conv_in G (by omega) (by omega)) ?_
      repeat (first|refine zF ?_|refine zE ?_|refine zK G G G ?_)
      refine yC [11] [0,1,2,3,4,5,6,7,8,9,10,11,12,13] (by kernel_rfl) G (by kernel_rfl) (by kernel_rfl) ?_
      repeat (refine yI G G G G G ?_)
      refine yE G G G G (pv_sub G G (by omega) (by omega)) ?_
      rw [show (((mid+m - 1:Nat):Int) - (((s+r) / 2:Nat):Int))=((mid+m - 1 - (s+r) / 2:Nat):Int) by omega]
      repeat (refine W_idx G G G (by omega) G G G ?_)
      refine W_atA G G hat2 hq2 G G G G ?_
      repeat (first|refine yI G G G G G ?_|refine W_idx G G G (by omega) G G G ?_)
      refine W_atA G G hat1 hq1 G G G G ?_
      skip
      refine W_call G G G G (zQ G G (by simp<;>rfl)) (hp X _ _ _ _ z2 z1) (Kept.all _) ?_
      rintro _ _ ⟨rfl,rfl⟩
      refine ⟨(by repeat (first|exact trivial|exact zG G (zS G)|exact zL G G G|exact zX G (by assumption) G|exact zH G (by assumption) G|exact zH G (by assumption) (by assumption)|refine ⟨?_,?_⟩)),?_⟩
      refine W_dec G G G G (pv_lss G G) (fun n4=>?_) (fun n4=>?_)
      ·repeat (first|refine yJ ?_|refine yI G G G G G ?_)
       repeat (first|refine zB ?_|refine zE ?_|refine zK G G G ?_|refine zI G ?_)
       exact ⟨(s+r) / 2 - s,_,by omega,(by repeat (first|exact zT _|refine zO G ?_)),s,(s+r) / 2,_,by omega,by omega,by omega,rfl,f1,.inr (fun _ _=>n4),rfl,yK.out⟩
      ·repeat (first|refine yJ ?_|refine yI G G G G G ?_)
       repeat (first|refine zB ?_|refine zE ?_|refine zK G G G ?_|refine zJ G ?_|refine L_add G G (by omega) (by omega) G G ?_)
       refine ⟨r - ((s+r) / 2+1),_,by omega,(by repeat (first|exact zT _|refine zO G ?_)),(s+r) / 2+1,r,_,by omega,by omega,by omega,rfl,.inr ?_,f2,rfl,yK.out⟩
       intro k hk2 h1 h2
       obtain rfl:k=(s+r) / 2:=by omega
       exact n4
     ·have hsr':r=s:=by omega
      subst hsr'
      repeat (first|refine yD ?_|refine zE ?_|refine zI G ?_)
      exact ⟨r,_,by omega,by omega,f1,f2,(by repeat (first|exact zT _|refine zO G ?_)),yK.out⟩
    ·clear R
     rintro g' _ ⟨s,R,g1,g2,f1,f2,hsub,rfl⟩
     refine hold_env hsub ?_
     clear hsub g'
     obtain ⟨i,hi⟩:∃ i,i=s - a:=⟨_,rfl⟩
     obtain ⟨j,hj⟩:∃ j,j=mid - s:=⟨_,rfl⟩
     obtain ⟨e,he⟩:∃ e,e=mid+m - s:=⟨_,rfl⟩
     have ij:i≤U.length∧j≤V.length∧a≤s∧s≤mid∧s≤m∧mid≤e∧m≤e∧e≤b:=by omega
     have hlo:=cut_lo o hu hv (i:=i) (j:=j) (by omega) (by omega) (by
      by_cases c1:i=0
      ·exact .inl c1
      by_cases c2:j=V.length
      ·exact .inr (.inl c2)
      rcases f1 with h|h
      ·omega
      refine .inr (.inr ⟨by omega,by omega,?_⟩)
      have:=h (s - 1) (by omega) (by omega) (by omega)
      have q1:mid+m - 1 - (s - 1) - m=j:=by omega
      have q2:s - 1 - a=i - 1:=by omega
      simpa only [q1,q2] using this)
     have hhi:=cut_hi o hu hv (i:=i) (j:=j) (by omega) (by omega) (by
      by_cases c1:j=0
      ·exact .inl c1
      by_cases c2:i=U.length
      ·exact .inr (.inl c2)
      rcases f2 with h|h
      ·omega
      refine .inr (.inr ⟨by omega,by omega,?_⟩)
      have:=h (by omega) (by omega)
      have q1:mid+m - 1 - s - m=j - 1:=by omega
      have q2:s - a=i:=by omega
      simpa only [q1,q2] using this)
     clear f1 f2 gU gV
     have eU:U.take i++U.drop i=U:=List.take_append_drop _ _
     have eV:V.take j++V.drop j=V:=List.take_append_drop _ _
     have lU1:(U.take i).length=i:=by rw [List.length_take]; omega
     have lU2:(U.drop i).length=U.length - i:=List.length_drop ..
     have lV1:(V.take j).length=j:=by rw [List.length_take]; omega
     have lV2:(V.drop j).length=V.length - j:=List.length_drop ..
     have zU1:=zU.take i
     have zU2:=zU.drop i
     have zV1:=zV.take j
     have zV2:=zV.drop j
     have sU1:=srt_take hu i
     have sU2:=srt_drop hu i
     have sV1:=srt_take hv j
     have sV2:=srt_drop hv j
     have hjoin:=fun (W1 W2:List (Kpt × List Value)) p1 p2 s1 s2=>srt_join (W1:=W1) (W2:=W2) (i:=i) (j:=j) p1 p2 s1 s2 hu hv hlo hhi
     have e1:A++(U++(V++C))=(A++U.take i)++(U.drop i++(V.take j++(V.drop j++C))):=by
      conv=>lhs; rw [← eU,← eV]
      simp only [List.append_assoc]
     rw [e1]
     generalize U.take i=U1 at *
     generalize U.drop i=U2 at *
     generalize V.take j=V1 at *
     generalize V.drop j=V2 at *
     repeat (first|refine zF ?_|refine zB ?_|refine zE ?_|refine zK G G G ?_|refine L_sub G G (by omega) (by omega) G G ?_)
     rw [show (((mid+m:Nat):Int) - (s:Int))=((e:Nat):Int) by omega]
     refine holdL_join (fun g' L'=>∃ (R:Hp),Sub g' [(0,.slice (some ⟨bl,0,none⟩) n cap),(1,.int .i64 ((a:Nat):Int)),(2,.int .i64 ((m:Nat):Int)),(3,.int .i64 ((b:Nat):Int)),(4,.func (.func k0) #[] caps.toArray),(18,.int .i64 ((mid:Nat):Int)),(20,.int .i64 ((s:Nat):Int)),(24,.int .i64 ((e:Nat):Int)),(185,.bool (decide (s<m∧m<e)))]∧L'=X+arrKpt bl ((A++U1)++(U2++(V1++(V2++C)))) spare+fr+R) ?_ ?_
     ·refine yG G G (pv_lss G G) (fun q1=>?_) (fun q1=>?_)
      ·repeat (refine zK G G G ?_)
       refine yG G G (pv_lss G G) (fun q2=>?_) (fun q2=>?_)
       ·repeat (first|refine zE ?_|refine zK G G G ?_)
        rw [decide_eq_true (show s<m∧m<e by omega)]
        exact ⟨R,(by repeat (first|exact zT _|refine zO G ?_)),rfl⟩
       ·repeat (first|refine zE ?_|refine zK G G G ?_)
        rw [decide_eq_false (show ¬ (s<m∧m<e) by omega)]
        exact ⟨R,(by repeat (first|exact zT _|refine zO G ?_)),rfl⟩
      ·repeat (first|refine zE ?_|refine zK G G G ?_|refine L_skip G G ?_)
       rw [decide_eq_false (show ¬ (s<m∧m<e) by omega)]
       exact ⟨R,(by repeat (first|exact zT _|refine zO G ?_)),rfl⟩
     ·clear R
      rintro g' _ ⟨R,hsub,rfl⟩
      refine hold_env hsub ?_
      clear hsub g'
      refine hold_join (fun g' L'=>∃ (R:Hp),Sub g' [(0,.slice (some ⟨bl,0,none⟩) n cap),(1,.int .i64 ((a:Nat):Int)),(3,.int .i64 ((b:Nat):Int)),(4,.func (.func k0) #[] caps.toArray),(18,.int .i64 ((mid:Nat):Int)),(20,.int .i64 ((s:Nat):Int)),(24,.int .i64 ((e:Nat):Int))]∧L'=X+arrKpt bl (A++(U1++(V1++(U2++(V2++C))))) spare+fr+R) ?_ ?_
      ·have e2:(A++U1)++(V1++(U2++(V2++C)))=A++(U1++(V1++(U2++(V2++C)))):=by simp only [List.append_assoc]
       refine hold_cond_d G (fun q=>?_) (fun q=>?_)
       ·repeat (first|refine zB ?_|refine zK G G G ?_)
        refine zY G G (zQ G G G) (rotateKpt_spec w0 X bl n cap s m e (A++U1) U2 V1 (V2++C) spare _ (by simp only [allZ_app]; exact ⟨⟨zA,zU1⟩,zU2,zV1,zV2,zC⟩) (by omega) (by omega) (by rw [List.length_append]; omega) (by rw [List.length_append]; omega) (by rw [List.length_append]; omega) (by simp only [List.length_append]; omega) hmax) ?_
        rintro _ _ ⟨rfl,rfl⟩
        rw [e2]
        repeat (refine zE ?_)
        exact ⟨_,(by repeat (first|exact zT _|refine zO G ?_)),yK.out⟩
       ·repeat (refine zP ?_)
        have e3:(A++U1)++(U2++(V1++(V2++C)))=A++(U1++(V1++(U2++(V2++C)))):=by
         rw [← e2]
         rcases (show U2.length=0∨V1.length=0 by omega) with h|h
         ·rw [List.eq_nil_of_length_eq_zero h]; simp only [List.nil_append]
         ·rw [List.eq_nil_of_length_eq_zero h]; simp only [List.nil_append]
        rw [e3]
        exact ⟨R,(by repeat (first|exact zT _|refine zO G ?_)),rfl⟩
      ·clear R
       rintro g' _ ⟨R,hsub,rfl⟩
       refine hold_env hsub ?_
       clear hsub g'
       repeat (first|refine zF ?_|refine zB ?_|refine zK G G G ?_)
       refine holdL_join (fun g' L'=>∃ (R:Hp),Sub g' [(0,.slice (some ⟨bl,0,none⟩) n cap),(1,.int .i64 ((a:Nat):Int)),(3,.int .i64 ((b:Nat):Int)),(4,.func (.func k0) #[] caps.toArray),(18,.int .i64 ((mid:Nat):Int)),(20,.int .i64 ((s:Nat):Int)),(24,.int .i64 ((e:Nat):Int)),(199,.bool (decide (a<s∧s<mid)))]∧L'=X+arrKpt bl (A++(U1++(V1++(U2++(V2++C))))) spare+fr+R) ?_ ?_
       ·refine yG G G (pv_lss G G) (fun q1=>?_) (fun q1=>?_)
        ·repeat (refine zK G G G ?_)
         refine yG G G (pv_lss G G) (fun q2=>?_) (fun q2=>?_)
         ·repeat (first|refine zE ?_|refine zK G G G ?_)
          rw [decide_eq_true (show a<s∧s<mid by omega)]
          exact ⟨R,(by repeat (first|exact zT _|refine zO G ?_)),rfl⟩
         ·repeat (first|refine zE ?_|refine zK G G G ?_)
          rw [decide_eq_false (show ¬ (a<s∧s<mid) by omega)]
          exact ⟨R,(by repeat (first|exact zT _|refine zO G ?_)),rfl⟩
        ·repeat (first|refine zE ?_|refine zK G G G ?_|refine L_skip G G ?_)
         rw [decide_eq_false (show ¬ (a<s∧s<mid) by omega)]
         exact ⟨R,(by repeat (first|exact zT _|refine zO G ?_)),rfl⟩
       ·clear R
        rintro g' _ ⟨R,hsub,rfl⟩
        refine hold_env hsub ?_
        clear hsub g'
        refine hold_join (fun g' L'=>∃ (W1:List (Kpt × List Value)) (R:Hp),W1.Perm (U1++V1)∧Srt (ltc c) W1∧Sub g' [(0,.slice (some ⟨bl,0,none⟩) n cap),(1,.int .i64 ((a:Nat):Int)),(3,.int .i64 ((b:Nat):Int)),(4,.func (.func k0) #[] caps.toArray),(18,.int .i64 ((mid:Nat):Int)),(20,.int .i64 ((s:Nat):Int)),(24,.int .i64 ((e:Nat):Int))]∧L'=X+arrKpt bl (A++(W1++(U2++(V2++C)))) spare+fr+R) ?_ ?_
        ·refine hold_cond_d G (fun q=>?_) (fun q=>?_)
         ·repeat (first|refine zB ?_|refine zK G G G ?_)
          refine zY G G (zQ G G G) (ih (i+j) (by omega) a s mid A U1 V1 (U2++(V2++C)) (by omega) (by omega) (by omega) (by simp only [allZ_app]; exact ⟨zA,zU1,zV1,zU2,zV2,zC⟩) sU1 sV1 ha (by omega) (by omega) (by simp only [List.length_append]; omega)) ?_
          rintro _ _ ⟨rfl,W1,p1,s1,rfl⟩
          repeat (refine zE ?_)
          exact ⟨W1,_,p1,s1,(by repeat (first|exact zT _|refine zO G ?_)),yK.out⟩
         ·repeat (refine zP ?_)
          refine ⟨U1++V1,R,List.Perm.refl _,?_,(by repeat (first|exact zT _|refine zO G ?_)),by rw [List.append_assoc U1]⟩
          rcases (show U1.length=0∨V1.length=0 by omega) with h|h
          ·rw [List.eq_nil_of_length_eq_zero h,List.nil_append]; exact sV1
          ·rw [List.eq_nil_of_length_eq_zero h,List.append_nil]; exact sU1
        ·clear R
         rintro g' _ ⟨W1,R,p1,s1,hsub,rfl⟩
         refine hold_env hsub ?_
         clear hsub g'
         have lW1:W1.length=i+j:=by rw [p1.length_eq,List.length_append]; omega
         have zW1:AllZ w0 X W1:=(allZ_app.2 ⟨zU1,zV1⟩).perm p1
         rw [← List.append_assoc A W1]
         repeat (first|refine zF ?_|refine zB ?_|refine zK G G G ?_)
         refine holdL_join (fun g' L'=>∃ (R:Hp),Sub g' [(0,.slice (some ⟨bl,0,none⟩) n cap),(3,.int .i64 ((b:Nat):Int)),(4,.func (.func k0) #[] caps.toArray),(18,.int .i64 ((mid:Nat):Int)),(24,.int .i64 ((e:Nat):Int)),(213,.bool (decide (mid<e∧e<b)))]∧L'=X+arrKpt bl ((A++W1)++(U2++(V2++C))) spare+fr+R) ?_ ?_
         ·refine yG G G (pv_lss G G) (fun q1=>?_) (fun q1=>?_)
          ·repeat (refine zK G G G ?_)
           refine yG G G (pv_lss G G) (fun q2=>?_) (fun q2=>?_)
           ·repeat (first|refine zE ?_|refine zK G G G ?_)
            rw [decide_eq_true (show mid<e∧e<b by omega)]
            exact ⟨R,(by repeat (first|exact zT _|refine zO G ?_)),rfl⟩
           ·repeat (first|refine zE ?_|refine zK G G G ?_)
            rw [decide_eq_false (show ¬ (mid<e∧e<b) by omega)]
            exact ⟨R,(by repeat (first|exact zT _|refine zO G ?_)),rfl⟩
          ·repeat (first|refine zE ?_|refine zK G G G ?_|refine L_skip G G ?_)
           rw [decide_eq_false (show ¬ (mid<e∧e<b) by omega)]
           exact ⟨R,(by repeat (first|exact zT _|refine zO G ?_)),rfl⟩
         ·clear R
          rintro g' _ ⟨R,hsub,rfl⟩
          refine hold_env hsub ?_
          clear hsub g'
          refine hold_cond_d G (fun q=>?_) (fun q=>?_)
          ·repeat (first|refine zB ?_|refine zK G G G ?_)
           refine zY G G (zQ G G G) (ih (U2.length+V2.length) (by omega) mid e b (A++W1) U2 V2 C G (by omega) (by omega) (by simp only [allZ_app]; exact ⟨⟨zA,zW1⟩,zU2,zV2,zC⟩) sU2 sV2 (by rw [List.length_append]; omega) (by rw [List.length_append]; omega) (by rw [List.length_append]; omega) (by simp only [List.length_append]; omega)) ?_
           rintro _ _ ⟨rfl,W2,p2,s2,rfl⟩
           obtain ⟨r1,r2⟩:=hjoin W1 W2 p1 p2 s1 s2
           rw [List.append_assoc A W1,← List.append_assoc W1 W2]
           repeat (refine zE ?_)
           exact ⟨[],_,_,trivial,⟨rfl,W1++W2,r2,r1,rfl⟩,yK.out⟩
          ·have s2:Srt (ltc c) (U2++V2):=by
            rcases (show U2.length=0∨V2.length=0 by omega) with h|h
            ·rw [List.eq_nil_of_length_eq_zero h,List.nil_append]; exact sV2
            ·rw [List.eq_nil_of_length_eq_zero h,List.append_nil]; exact sU2
           obtain ⟨r1,r2⟩:=hjoin W1 (U2++V2) p1 (List.Perm.refl _) s1 s2
           rw [← List.append_assoc U2 V2,List.append_assoc A W1,← List.append_assoc W1 (U2++V2)]
           repeat (refine zP ?_)
           exact ⟨[],_,_,trivial,⟨rfl,W1++(U2++V2),r2,r1,rfl⟩,yK.out⟩
end
end Sl
end Go.Proofs.YtpkealohodeifaaGreat
namespace Go.Proofs.YtpkealohodeifaaGreat
open Go Go.RowKit
namespace Sl
set_option maxHeartbeats 32000000
set_option maxRecDepth 4000
set_option synthInstance.maxHeartbeats 400000
set_option synthInstance.maxSize 100000
attribute [local irreducible] Hold HoldL HoldW
theorem Chunks.first' {β:Type} {lt:β→β→Prop} {s:Nat} {l:List β} (h:Chunks lt s l) (hs:s≤l.length) (h0:0<s):∃ x r,l=x++r∧x.length=s∧Srt lt x∧Chunks lt s r:=by
 rcases Nat.lt_or_eq_of_le hs with h1|h1
 ·exact h.first h1
 ·exact ⟨l,[],(List.append_nil _).symm,h1.symm,h.whole (by omega) h0,.last (by simp) List.Pairwise.nil⟩
section
variable (w0:World) (X:Hp) (bl n cap:Nat) (spare:List Value) (k0:Nat) [hf:Fun Tryz.prog k0] (caps:List Value) (c:Kpt→Kpt→Int)
 (hp:∀ Y x y e f,Rep.rd w0 Y x e→Rep.rd w0 Y y f→Spec Tryz.prog w0 k0 (.agg e.toArray::.agg f.toArray::caps) X (fun r h'=>r=.int .i64 (c x y)∧X=h'))
include hp
theorem stableKpt_spec (o:Ordr (ltc c)) (zs:List (Kpt × List Value)) (hz:AllZ w0 X zs) (hn:n=zs.length) (hmax:n≤1000000000) :
  Spec Tryz.prog w0 252 [.slice (some ⟨bl,0,none⟩) n cap,.int .i64 (n:Int),.func (.func k0) #[] caps.toArray] (X+arrKpt bl zs spare)
   (fun r h'=>r=.tuple #[]∧∃ W,W.Perm zs∧Srt (ltc c) W∧X+arrKpt bl W spare=h'):=by
 refine zN Tryz.func252 G Tryz.ntmps252 Tryz.results252 G fun fr=>?_
 repeat (first|refine zF ?_|refine zB ?_|refine zE ?_|refine zK G G G ?_)
 refine hold_fall (fun g' L'=>∃ (k:Nat) (P S:List (Kpt × List Value)) (R:Hp),P.length=20*k∧S.length<20∧Full (ltc c) 20 P∧(P++S).Perm zs∧Sub g' [(0,.slice (some ⟨bl,0,none⟩) n cap),(1,.int .i64 (n:Int)),(2,.func (.func k0) #[] caps.toArray),(6,.int .i64 ((20:Nat):Int)),(7,.int .i64 ((20*k:Nat):Int))] ∧
  L'=X+arrKpt bl (P++S) spare+fr+R) ?_ ?_
 ·repeat (refine zR ?_)
  refine hold_count (n / 20) (fun k g L=>∃ (P S:List (Kpt × List Value)) (R:Hp),P.length=20*k∧Full (ltc c) 20 P∧(P++S).Perm zs∧g=[(0,.slice (some ⟨bl,0,none⟩) n cap),(1,.int .i64 (n:Int)),(2,.func (.func k0) #[] caps.toArray),(6,.int .i64 ((20:Nat):Int)),(7,.int .i64 ((20*k:Nat):Int)),(8,.int .i64 ((20*k+20:Nat):Int))] ∧
   L=X+arrKpt bl (P++S) spare+fr+R) _ ⟨[],zs,0,rfl,.nil,List.Perm.refl _,rfl,by rw [List.nil_append,yB]⟩ (by repeat (first|exact zT _|refine zO G ?_)) ?_
  rintro k g L hk ⟨P,S,R,lP,fP,pm,rfl,rfl⟩
  have lS:=pm.length_eq
  rw [List.length_append] at lS
  have zPS:AllZ w0 X (P++S):=hz.perm pm
  repeat (first|refine zF ?_|refine zB ?_|refine zK G G G ?_)
  refine yG G G (pv_leq G G) (fun n1=>?_) (fun n1=>?_)
  ·have l1:(S.take 20).length=20:=by rw [List.length_take]; omega
   have l2:(S.drop 20).length=S.length - 20:=List.length_drop ..
   have eS:S.take 20++S.drop 20=S:=List.take_append_drop _ _
   rw [← eS] at zPS pm ⊢
   repeat (first|refine zF ?_|refine zR ?_|refine zB ?_|refine zE ?_|refine zK G G G ?_|refine zP ?_|refine zJ G ?_)
   refine zY G G (zQ G G G) (insertionSortKpt_spec w0 X bl n cap spare k0 caps c hp o (20*k) (20*k+20) P (S.take 20) (S.drop 20) zPS (by omega) (by omega) (by omega) hmax) ?_
   rintro _ _ ⟨rfl,W,pW,sW,rfl⟩
   have lW:=pW.length_eq
   rw [← List.append_assoc P W]
   repeat (first|refine zF ?_|refine zB ?_|refine zE ?_|refine zK G G G ?_|refine L_add G G (by omega) (by omega) G G ?_)
   rw [show (((20*k+20:Nat):Int)+((20:Nat):Int))=((20*(k+1)+20:Nat):Int) by omega,show 20*k+20=20*(k+1) by omega]
   exact ⟨by omega,_,(by repeat (first|exact zT _|refine zO G ?_)),P++W,S.drop 20,_,by rw [List.length_append]; omega,.snoc fP (by omega) sW,by rw [List.append_assoc]; exact (List.Perm.append_left P (pW.append_right _)).trans pm,rfl,yK.out⟩
  ·repeat (first|refine yD ?_|refine zE ?_|refine zI G ?_)
   exact ⟨k,P,S,R,lP,by omega,fP,pm,(by repeat (first|exact zT _|refine zO G ?_)),rfl⟩
 ·rintro g' _ ⟨k,P,S,R,lP,lS20,fP,pm,hsub,rfl⟩
  refine hold_env hsub ?_
  clear hsub g'
  have lS:=pm.length_eq
  rw [List.length_append] at lS
  have zPS:AllZ w0 X (P++S):=hz.perm pm
  have eS:P++S=P++(S++[]):=by rw [List.append_nil]
  rw [eS] at zPS ⊢
  repeat (first|refine zF ?_|refine zB ?_|refine zK G G G ?_)
  refine zY G G (zQ G G G) (insertionSortKpt_spec w0 X bl n cap spare k0 caps c hp o (20*k) n P S [] zPS (by omega) (by omega) (by rw [List.length_nil]; omega) hmax) ?_
  rintro _ _ ⟨rfl,W,pW,sW,rfl⟩
  have lW:=pW.length_eq
  rw [List.append_nil]
  have ch:Chunks (ltc c) 20 (P++W):=fP.chunks (.last (by omega) sW)
  have pm2:(P++W).Perm zs:=(List.Perm.append_left P pW).trans pm
  generalize P++W=Z at *
  clear pm eS zPS lS20 lW pW sW lS fP lP
  repeat (first|refine zR ?_|refine zE ?_)
  refine hold_loop (fun q g L=>∃ (s:Nat) (Z:List (Kpt × List Value)) (R:Hp),0<s∧Chunks (ltc c) s Z∧Z.Perm zs∧q=n - s∧g=[(0,.slice (some ⟨bl,0,none⟩) n cap),(1,.int .i64 (n:Int)),(2,.func (.func k0) #[] caps.toArray),(6,.int .i64 (s:Int))]∧L=X+arrKpt bl Z spare+fr+R) _ _
   ⟨20,Z,_,by omega,ch,pm2,rfl,rfl,yK.out⟩ (by repeat (first|exact zT _|refine zO G ?_)) ?_
  clear ch pm2 Z R P S W k
  rintro q g L ⟨s,Z,R,s0,ch,pm,rfl,rfl,rfl⟩
  repeat (first|refine zF ?_|refine zB ?_|refine zK G G G ?_)
  refine yG G G (pv_lss G G) (fun n1=>?_) (fun n1=>?_)
  ·repeat (first|refine zF ?_|refine zR ?_|refine zB ?_|refine zE ?_|refine zK G G G ?_|refine zP ?_|refine zJ G ?_)
   refine yH G G (pv_mul G G (by omega) (by omega)) ?_
   rw [show ((2:Int)*(s:Int))=((2*s:Nat):Int) by omega]
   repeat (first|refine zF ?_|refine zE ?_|refine zK G G G ?_)
   refine hold_fall (fun g' L'=>∃ (a:Nat) (P S:List (Kpt × List Value)) (R:Hp),P.length=a∧S.length<2*s∧Full (ltc c) (2*s) P∧Chunks (ltc c) s S∧(P++S).Perm zs∧Sub g' [(0,.slice (some ⟨bl,0,none⟩) n cap),(1,.int .i64 (n:Int)),(2,.func (.func k0) #[] caps.toArray),(6,.int .i64 (s:Int)),(7,.int .i64 (a:Int))] ∧
    L'=X+arrKpt bl (P++S) spare+fr+R) ?_ ?_
   ·repeat (refine zR ?_)
    refine hold_loop (fun q g L=>∃ (a:Nat) (P S:List (Kpt × List Value)) (R:Hp),P.length=a∧Full (ltc c) (2*s) P∧Chunks (ltc c) s S∧(P++S).Perm zs∧q=n - a∧g=[(0,.slice (some ⟨bl,0,none⟩) n cap),(1,.int .i64 (n:Int)),(2,.func (.func k0) #[] caps.toArray),(6,.int .i64 (s:Int)),(7,.int .i64 (a:Int)),(8,.int .i64 ((a+2*s:Nat):Int))] ∧
     L=X+arrKpt bl (P++S) spare+fr+R) _ _ ⟨0,[],Z,_,rfl,.nil,ch,pm,rfl,by rw [Nat.zero_add],by first|(rw [List.nil_append]; done)|(rw [List.nil_append]; exact yK.out)⟩ (by repeat (first|exact zT _|refine zO G ?_)) ?_
    clear ch pm Z R
    rintro q g L ⟨a,P,S,R,lP,fP,ch,pm,rfl,rfl,rfl⟩
    have lS:=pm.length_eq
    rw [List.length_append] at lS
    repeat (first|refine zF ?_|refine zB ?_|refine zK G G G ?_)
    refine yG G G (pv_leq G G) (fun n2=>?_) (fun n2=>?_)
    ·obtain ⟨x,r,rfl,lx,sx,cr⟩:=ch.first (by omega)
     rw [List.length_append] at lS
     obtain ⟨y,S2,rfl,ly,sy,c2⟩:=cr.first' (by omega) s0
     rw [List.length_append] at lS
     repeat (first|refine zF ?_|refine zR ?_|refine zB ?_|refine zE ?_|refine zK G G G ?_|refine zP ?_|refine zJ G ?_|refine L_add G G (by omega) (by omega) G G ?_)
     rw [show ((a:Int)+(s:Int))=((a+s:Nat):Int) by omega]
     refine zY G G (zQ G G G) (symMergeKpt_spec w0 X bl n cap spare k0 caps c hp o hmax (x.length+y.length) a (a+s) (a+2*s) P x y S2 G (by omega) (by omega) (hz.perm pm) sx sy (by omega) (by omega) (by omega) (by omega)) ?_
     rintro _ _ ⟨rfl,W,pW,sW,rfl⟩
     have lW:=pW.length_eq
     rw [List.length_append] at lW
     rw [← List.append_assoc P W]
     repeat (first|refine zF ?_|refine zB ?_|refine zE ?_|refine zK G G G ?_)
     refine yH G G (pv_mul G G (by omega) (by omega)) ?_
     repeat (first|refine zE ?_|refine zK G G G ?_|refine L_add G G (by omega) (by omega) G G ?_)
     rw [show (((a+2*s:Nat):Int)+(2:Int)*(s:Int))=((a+2*s+2*s:Nat):Int) by omega]
     exact ⟨n - (a+2*s),_,by omega,(by repeat (first|exact zT _|refine zO G ?_)),a+2*s,P++W,S2,_,by rw [List.length_append]; omega,.snoc fP (by omega) sW,c2,by rw [List.append_assoc]; exact (List.Perm.append_left P ((pW.append_right S2).trans (by rw [List.append_assoc]))).trans pm,rfl,rfl,yK.out⟩
    ·repeat (first|refine yD ?_|refine zE ?_|refine zI G ?_)
     exact ⟨a,P,S,R,lP,by omega,fP,ch,pm,(by repeat (first|exact zT _|refine zO G ?_)),rfl⟩
   ·clear ch pm Z R
    rintro g' _ ⟨a,P,S,R,lP,lS2,fP,ch,pm,hsub,rfl⟩
    refine hold_env hsub ?_
    clear hsub g'
    have lS:=pm.length_eq
    rw [List.length_append] at lS
    repeat (first|refine zF ?_|refine zB ?_|refine zE ?_|refine zK G G G ?_|refine L_add G G (by omega) (by omega) G G ?_)
    rw [show ((a:Int)+(s:Int))=((a+s:Nat):Int) by omega]
    refine yG G G (pv_lss G G) (fun n2=>?_) (fun n2=>?_)
    ·obtain ⟨x,y,rfl,lx,sx,cr⟩:=ch.first (by omega)
     rw [List.length_append] at lS lS2
     have sy:Srt (ltc c) y:=cr.whole (by omega) s0
     have e1:P++(x++y)=P++(x++(y++[])):=by rw [List.append_nil]
     rw [e1] at pm ⊢
     repeat (first|refine zB ?_|refine zE ?_|refine zK G G G ?_|refine zJ G ?_)
     refine zY G G (zQ G G G) (symMergeKpt_spec w0 X bl n cap spare k0 caps c hp o hmax (x.length+y.length) a (a+s) n P x y [] rfl (by omega) (by omega) (hz.perm pm) sx sy (by omega) (by omega) (by omega) (by rw [List.length_nil]; omega)) ?_
     rintro _ _ ⟨rfl,W,pW,sW,rfl⟩
     have lW:=pW.length_eq
     rw [List.length_append] at lW
     rw [List.append_nil] at pm ⊢
     repeat (first|refine zB ?_|refine zE ?_|refine zK G G G ?_)
     refine yH G G (pv_mul G G (by omega) (by omega)) ?_
     repeat (first|refine zE ?_|refine zK G G G ?_)
     rw [show ((s:Int)*(2:Int))=((2*s:Nat):Int) by omega]
     exact ⟨n - 2*s,_,by omega,(by repeat (first|exact zT _|refine zO G ?_)),2*s,P++W,_,by omega,fP.chunks (.last (by omega) sW),(List.Perm.append_left P pW).trans pm,rfl,rfl,yK.out⟩
    ·have sS:Srt (ltc c) S:=ch.whole (by omega) s0
     repeat (first|refine zB ?_|refine zE ?_|refine zK G G G ?_|refine zP ?_|refine zI G ?_)
     refine yH G G (pv_mul G G (by omega) (by omega)) ?_
     repeat (first|refine zE ?_|refine zK G G G ?_)
     rw [show ((s:Int)*(2:Int))=((2*s:Nat):Int) by omega]
     exact ⟨n - 2*s,_,by omega,(by repeat (first|exact zT _|refine zO G ?_)),2*s,P++S,R,by omega,fP.chunks (.last (by omega) sS),pm,rfl,rfl,by first|rfl|ac_rfl⟩
  ·repeat (first|refine yD ?_|refine zE ?_|refine zI G ?_)
   exact ⟨[],_,_,trivial,⟨rfl,Z,pm,ch.whole (by have:=pm.length_eq; omega) s0,rfl⟩,yK.out⟩
end
theorem insertionSort0Kpt_spec (w0:World) (vs vf:Value):Spec Tryz.prog w0 274 [vs,.int .i64 0,.int .i64 0,vf] 0 (fun r h'=>r=.tuple #[]∧0=h'):=by
 refine zN Tryz.func274 G Tryz.ntmps274 Tryz.results274 G fun fr=>?_
 repeat (first|refine zF ?_|refine zR ?_|refine zB ?_|refine zE ?_|refine zK G G G ?_|refine L_add G G (by omega) (by omega) G G ?_)
 refine hold_loop_of (holdR ?_)
 repeat (first|refine zF ?_|refine zB ?_|refine zK G G G ?_)
 refine L_no G G (pv_lss G G) (by omega) ?_
 repeat (first|refine yD ?_|refine zE ?_|refine zI G ?_)
 exact ⟨[],0,_,trivial,⟨rfl,rfl⟩,yK.out⟩
theorem stable0Kpt_spec (w0:World) (vs vf:Value):Spec Tryz.prog w0 252 [vs,.int .i64 0,vf] 0 (fun r h'=>r=.tuple #[]∧0=h'):=by
 refine zN Tryz.func252 G Tryz.ntmps252 Tryz.results252 G fun fr=>?_
 repeat (first|refine zF ?_|refine zR ?_|refine zB ?_|refine zE ?_|refine zK G G G ?_)
 refine hold_loop_of (holdR ?_)
 repeat (first|refine zF ?_|refine zB ?_|refine zK G G G ?_)
 refine L_no G G (pv_leq G G) (by omega) ?_
 repeat (first|refine zF ?_|refine yD ?_|refine zB ?_|refine zE ?_|refine zK G G G ?_|refine zI G ?_)
 refine zY G G (zQ G G G) (insertionSort0Kpt_spec w0 vs vf) ?_
 rintro _ _ ⟨rfl,rfl⟩
 repeat (first|refine zR ?_|refine zE ?_)
 refine hold_loop_of (holdR ?_)
 repeat (first|refine zF ?_|refine zB ?_|refine zK G G G ?_)
 refine L_no G G (pv_lss G G) (by omega) ?_
 repeat (first|refine yD ?_|refine zE ?_|refine zI G ?_)
 exact ⟨[],0,_,trivial,⟨rfl,rfl⟩,yK.out⟩
theorem sortStableKpt_spec (w0:World) (X:Hp) (xs:List Kpt) (v:Value) (h:Hp) (k0:Nat) [hf:Fun Tryz.prog k0] (caps:List Value) (c:Kpt→Kpt→Int) (o:Ordr (fun x y:Kpt=>c x y<0)) (hr:OwL w0 X xs v h) (hl:xs.length≤1000000000)
  (hp:∀ Y x y e f,Rep.rd w0 Y x e→Rep.rd w0 Y y f→Spec Tryz.prog w0 k0 (.agg e.toArray::.agg f.toArray::caps) X (fun r h'=>r=.int .i64 (c x y)∧X=h')) :
  Spec Tryz.prog w0 218 [v,.func (.func k0) #[] caps.toArray] (X+h) (fun r h'=>r=.tuple #[]∧∃ ys h2,ys.Perm xs∧Srt (fun x y=>c x y<0) ys∧OwL w0 X ys v h2∧X+h2=h'):=by
 obtain ⟨es,h1,h2⟩:=id hr
 have hlen:=h2.length
 obtain ⟨a,cp,rfl⟩:=hr.shape
 by_cases h0:xs=[]
 ·subst h0
  refine zN Tryz.func218 G Tryz.ntmps218 Tryz.results218 G fun fr=>?_
  repeat (first|refine zB ?_|refine zK G G G ?_|refine L_len G G G ?_)
  refine zY G G (zQ G G G) (stable0Kpt_spec w0 _ _) ?_
  rintro _ _ ⟨rfl,rfl⟩
  repeat (refine zE ?_)
  exact ⟨[],X+h,_,trivial,⟨rfl,[],h,List.Perm.refl _,List.Pairwise.nil,hr,rfl⟩,yK.out⟩
 ·obtain ⟨b,cap,spare,e1,rfl,hes,hcap,hmax,hsp⟩:=h1.nonempty (by intro e; subst e; exact h0 (List.eq_nil_of_length_eq_zero (by simpa using hlen.symm)))
  simp only [Value.slice.injEq] at e1
  obtain ⟨rfl,-,rfl⟩:=e1
  have hzip:rowsZ (xs.zip es)=es:=by show (xs.zip es).map Prod.snd=es; rw [List.map_snd_zip (by omega)]
  have hzf:(xs.zip es).map Prod.fst=xs:=by rw [List.map_fst_zip (by omega)]
  have hz:AllZ w0 X (xs.zip es):=by
   intro z hz
   obtain ⟨i,hi,rfl⟩:=List.getElem_of_mem hz
   rw [List.length_zip] at hi
   obtain ⟨e,he1,he2⟩:=h2.get (show i<xs.length by omega)
   rw [List.getElem_zip]
   rw [List.getElem?_eq_getElem (by omega)] at he1
   rw [Option.some.inj he1]; exact he2
  have hst:=stableKpt_spec w0 X b xs.length cp spare k0 caps c hp ⟨fun h=>o.asym h,fun h h'=>o.le h h'⟩ (xs.zip es) hz (by rw [List.length_zip]; omega) hl
  change Spec _ _ _ _ (X+pt b (.cells ((rowsZ (xs.zip es)).flatten++spare).toArray 73 (0,0))) _ at hst
  rw [hzip] at hst
  refine zN Tryz.func218 G Tryz.ntmps218 Tryz.results218 G fun fr=>?_
  repeat (first|refine zB ?_|refine zK G G G ?_|refine L_len G G G ?_)
  refine zY G G (zQ G G G) hst ?_
  rintro _ _ ⟨rfl,W,pW,sW,rfl⟩
  repeat (refine zE ?_)
  have zW:AllZ w0 X W:=hz.perm pW
  have lW:W.length=es.length:=by rw [pW.length_eq,List.length_zip]; omega
  have hall:All2 (Rep.rd w0 X) (W.map Prod.fst) (rowsZ W):=by
   clear pW sW lW
   induction W with
   | nil=>exact trivial
   | cons z W ihW=>exact ⟨zW z (List.mem_cons_self ..),ihW fun y hy=>zW y (List.mem_cons_of_mem _ hy)⟩
  have hrow:=isRow_block (E:=73) (b:=b) (cap:=cp) (spare:=spare) zW.len (by rw [List.length_map,lW]; exact hcap) hmax (by rw [List.length_map,lW]; exact hsp)
  rw [List.length_map,lW,hlen] at hrow
  exact ⟨[],_,_,trivial,⟨rfl,W.map Prod.fst,_,by have:=pW.map Prod.fst; rwa [hzf] at this,List.pairwise_map.2 sW,⟨_,hrow,hall⟩,rfl⟩,yK.out⟩
end Sl
end Go.Proofs.YtpkealohodeifaaGreat
namespace Go.Proofs.YtpkealohodeifaaGreat
open Go Go.RowKit
namespace Sl
set_option maxHeartbeats 16000000
set_option maxRecDepth 4000
set_option synthInstance.maxHeartbeats 400000
set_option synthInstance.maxSize 100000
attribute [local irreducible] Hold HoldL HoldW
section
variable {β:Type} {lt:β→β→Prop}
theorem strict_eq (asy:∀ a b,lt a b→¬ lt b a):∀ {l m:List β},l.Pairwise lt→m.Pairwise lt→l.Perm m→l=m
 | [],m,_,_,h=>(List.nil_perm.1 h).symm
 | x::l,m,hl,hm,h=>by
  match m with
  | []=>exact absurd (h.length_eq) (by simp)
  | y::m =>
   obtain ⟨h1,h2⟩:=List.pairwise_cons.1 hl
   obtain ⟨h3,h4⟩:=List.pairwise_cons.1 hm
   have e:x=y:=Classical.byContradiction fun hne=>by
    have hx:x∈m:=by
     rcases List.mem_cons.1 (h.mem_iff.1 (List.mem_cons_self ..)) with e|e
     ·exact absurd e hne
     ·exact e
    have hy:y∈l:=by
     rcases List.mem_cons.1 (h.mem_iff.2 (List.mem_cons_self ..)) with e|e
     ·exact absurd e.symm hne
     ·exact e
    exact asy _ _ (h1 y hy) (h3 x hx)
   subst e
   rw [strict_eq asy h2 h4 (List.Perm.cons_inv h)]
theorem strict_of (asy:∀ a b,lt a b→¬ lt b a) {l:List β} (hs:Srt lt l) (hd:l.Pairwise fun a b=>lt a b∨lt b a):l.Pairwise lt :=
 (hs.and hd).imp fun ⟨h1,h2⟩=>h2.resolve_right h1
end
theorem ltK_ordr :Ordr ltK:=⟨fun h=>by unfold ltK ltKey at *; omega,fun h h'=>by unfold ltK ltKey at *; omega⟩
theorem insK_perm (x:Kpt):∀ l:List Kpt,(insK x l).Perm (x::l)
 | []=>List.Perm.refl _
 | y::l=>by
  unfold insK
  split
  ·exact ((insK_perm x l).cons y).trans (List.Perm.swap x y l)
  ·exact List.Perm.refl _
theorem sortK_perm :∀ l:List Kpt,(sortK l).Perm l
 | []=>List.Perm.refl _
 | x::l=>(insK_perm x (sortK l)).trans ((sortK_perm l).cons x)
theorem insK_srt (x:Kpt):∀ {l:List Kpt},Srt ltK l→Srt ltK (insK x l)
 | [],_=>List.pairwise_singleton _ _
 | y::l,h=>by
  obtain ⟨h1,h2⟩:=List.pairwise_cons.1 h
  unfold insK
  split
  ·rename_i hy
   refine List.pairwise_cons.2 ⟨fun z hz=>?_,insK_srt x h2⟩
   rcases List.mem_cons.1 ((insK_perm x l).mem_iff.1 hz) with rfl|hz
   ·exact ltK_ordr.asym hy
   ·exact h1 z hz
  ·rename_i hy
   refine List.pairwise_cons.2 ⟨fun z hz=>?_,h⟩
   rcases List.mem_cons.1 hz with rfl|hz
   ·exact hy
   ·exact ltK_ordr.le hy (h1 z hz)
theorem sortK_srt :∀ l:List Kpt,Srt ltK (sortK l)
 | []=>List.Pairwise.nil
 | x::l=>insK_srt x (sortK_srt l)
def Apart (l m:List Kpt):Prop:=∀ x∈l,∀ y∈m,ltK x y∨ltK y x
theorem apart_app {l m:List Kpt} (hl:OkK l) (hm:OkK m) (h:Apart l m):(l++m).Pairwise fun a b=>ltK a b∨ltK b a :=
 List.pairwise_append.2 ⟨hl.2.imp .inl,hm.2.imp .inl,h⟩
theorem sortK_strict {l m:List Kpt} (hl:OkK l) (hm:OkK m) (h:Apart l m):(sortK (l++m)).Pairwise ltK :=
 strict_of (fun _ _=>ltK_ordr.asym) (sortK_srt _) (((sortK_perm _).pairwise_iff (fun h=>h.symm)).2 (apart_app hl hm h))
theorem sortK_eq {l m ys:List Kpt} (hl:OkK l) (hm:OkK m) (h:Apart l m) (hp:ys.Perm (l++m)) (hs:Srt ltK ys):ys=sortK (l++m) :=
 strict_eq (fun _ _=>ltK_ordr.asym) (strict_of (fun _ _=>ltK_ordr.asym) hs ((hp.pairwise_iff (fun h=>h.symm)).2 (apart_app hl hm h))) (sortK_strict hl hm h) (hp.trans (sortK_perm _).symm)
theorem ordK_ordr :Ordr (fun x y:Kpt=>ordK x y<0):=⟨fun h=>by rw [ordK_neg] at *; exact ltK_ordr.asym h,fun h h'=>by rw [ordK_neg] at *; exact ltK_ordr.le h h'⟩
theorem install22_spec (w0:World) (X:Hp) (b:Nat) (s:Shd) (h:Hp) (o:Opn) (e:List Value) (hs:ShAt w0 X b s h) (ho:Rep.rd w0 X o e) (hz:Sized s) (hk:Okay s) (hod:o.data.length≤100000) (hap:∀ l k,partF o.data o.lo o.hi=some (l,k)→¬ (s.lo≠s.hi∧o.hi≠s.lo∧o.lo≠s.hi)→Apart s.kept k) :
  Spec Tryz.prog w0 159 [.pointer (some ⟨b,0,none⟩),.agg e.toArray] (X+h) (PostS w0 X b (installF s o)):=by
 obtain ⟨a1,c1,a2,c2,a3,c3,a4,c4,a5,c5,a6,c6,a7,c7,h1,h2,h3,h4,h5,h6,h7,o1,o2,o3,o4,o5,o6,o7,rfl⟩:=id hs
 obtain ⟨x1,y1,x2,y2,x3,y3,x4,y4,rfl,r1,r2,r3,r4⟩:=id ho
 have z4:=hz.kept
 have hpart:=partOf_spec w0 X (.slice x4 o.data.length y4) o.data o.lo o.hi r4 (by omega)
 have nB:(partB o.data).1.length≤o.data.length:=listV_num oneBlk 16 _
 have lB:(partB o.data).2.1.left.length≤o.data.length:=listV_len oneBlk_len 16 _
 have nK:(partK o.data).1.length≤(partB o.data).2.1.left.length:=listV_num oneKpt 24 _
 refine zN Tryz.func159 G Tryz.ntmps159 Tryz.results159 G fun fr=>?_
 repeat (first|refine zF ?_|refine zR ?_|refine zB ?_|refine zE ?_|refine L_box G (c:=[_,_,_,_,_,_,_,_,_,_,_,_,_,_,_,_,_]) G G G (fun _=>?_)|refine L_alloc (c:=[_,_]) G G G (fun _=>?_))
 rename_i b3 b4
 refine yC [] [0,1,2,3,4,5,6,7,8] (by kernel_rfl) G (by kernel_rfl) (by kernel_rfl) ?_
 repeat (first|refine yI G G G G G ?_|refine yE G G G G (yA G G G) ?_|refine W_load G G G G (yF G) (zG G (zS G)) ?_)
 refine W_dec G G G G (pv_eql G G) (fun n1=>?_) (fun n1=>?_)
 ·repeat (first|refine yJ ?_|refine yI G G G G G ?_)
  repeat (first|refine zF ?_|refine zB ?_|refine zJ G ?_)
  refine zY G G (zQ G G G) (code22_spec w0 0) ?_
  rintro _ _ ⟨rfl,rfl⟩
  repeat (first|refine zE ?_|refine zM ?_|refine L_stA G (vs:=[_,_]) G G G G (c':=[_,_]) G G ?_)
  rw [show installF s o=(s,⟨0,[]⟩) by unfold installF; rw [if_pos n1]]
  exact ⟨[_],X+(stC b (cellsS s (.slice a1 s.blocks.length c1) (.slice a2 s.kept.length c2) (.slice a3 s.locks.length c3) (.slice a4 s.preps.length c4) (.slice a5 s.dead.length c5) (.slice a6 s.outs.length c6) (.slice a7 s.sess.length c7))+h1+h2+h3+h4+h5+h6+h7),_,⟨⟨_,rfl,zL G G G⟩,trivial⟩,PostS.same hs,yK.out⟩
 ·repeat (first|refine yJ ?_|refine yI G G G G G ?_)
  repeat (first|refine zF ?_|refine zI G ?_)
  refine yC [] [0,1,2,3,4,5,6,7,8] (by kernel_rfl) G (by kernel_rfl) (by kernel_rfl) ?_
  repeat (first|refine yI G G G G G ?_|refine yE G G G G (yA G G G) ?_|refine W_load G G G G (yF G) (zG G (zS G)) ?_)
  refine W_dec G G G G (pv_lss G G) (fun n2=>?_) (fun n2=>?_)
  ·repeat (first|refine yJ ?_|refine yI G G G G G ?_)
   repeat (first|refine zF ?_|refine zB ?_|refine zJ G ?_)
   refine zY G G (zQ G G G) (code22_spec w0 26) ?_
   rintro _ _ ⟨rfl,rfl⟩
   repeat (first|refine zE ?_|refine zM ?_|refine L_stA G (vs:=[_,_]) G G G G (c':=[_,_]) G G ?_)
   rw [show installF s o=(s,⟨26,[]⟩) by unfold installF; rw [if_neg n1,if_pos n2]]
   exact ⟨[_],X+(stC b (cellsS s (.slice a1 s.blocks.length c1) (.slice a2 s.kept.length c2) (.slice a3 s.locks.length c3) (.slice a4 s.preps.length c4) (.slice a5 s.dead.length c5) (.slice a6 s.outs.length c6) (.slice a7 s.sess.length c7))+h1+h2+h3+h4+h5+h6+h7),_,⟨⟨_,rfl,zL G G G⟩,trivial⟩,PostS.same hs,yK.out⟩
  ·repeat (first|refine yJ ?_|refine yI G G G G G ?_)
   repeat (first|refine zF ?_|refine zI G ?_)
   refine hold_join (fun g' L'=>∃ (R:Hp),Sub g' [(0,.pointer (some ⟨b,0,none⟩)),(3,.pointer (some ⟨b3,0,none⟩)),(4,.pointer (some ⟨b4,0,none⟩)),(28,.bool (decide (s.lo≠s.hi∧o.hi≠s.lo∧o.lo≠s.hi)))]∧L'=X+(stC b (cellsS s (.slice a1 s.blocks.length c1) (.slice a2 s.kept.length c2) (.slice a3 s.locks.length c3) (.slice a4 s.preps.length c4) (.slice a5 s.dead.length c5) (.slice a6 s.outs.length c6) (.slice a7 s.sess.length c7))+h1+h2+h3+h4+h5+h6+h7)+opC b3 o (.slice x1 o.parts.length y1) (.slice x2 o.reads.length y2) (.slice x3 o.writes.length y3) (.slice x4 o.data.length y4)+resC b4+fr+R) ?_ ?_
   ·refine yC [] [0,1,2,3,4,5,6,7,8,9,10,11,12,13,14,15,16,17,18,19,20,21,22,23,24,25,26,27,28,29,30,31] (by kernel_rfl) G (by kernel_rfl) (by kernel_rfl) ?_
    repeat (first|refine yI G G G G G ?_|refine yE G G G G (yA G G G) ?_|refine W_load G G G G (yF G) (zG G (zS G)) ?_)
    refine W_dec G G G G (pv_neq G G) (fun m1=>?_) (fun m1=>?_)
    ·repeat (first|refine yI G G G G G ?_|refine yE G G G G (yA G G G) ?_|refine W_load G G G G (yF G) (zG G (zS G)) ?_)
     refine W_dec G G G G (pv_neq G G) (fun m2=>?_) (fun m2=>?_)
     ·repeat (first|refine yI G G G G G ?_|refine yE G G G G (yA G G G) ?_|refine W_load G G G G (yF G) (zG G (zS G)) ?_)
      refine W_dec G G G G (pv_neq G G) (fun m3=>?_) (fun m3=>?_)
      ·repeat (first|refine yJ ?_|refine yI G G G G G ?_)
       rw [decide_eq_true (show s.lo≠s.hi∧o.hi≠s.lo∧o.lo≠s.hi from ⟨m1,m2,m3⟩)]
       exact ⟨_,(by repeat (first|exact zT _|refine zO G ?_)),yK.out⟩
      ·repeat (first|refine yJ ?_|refine yI G G G G G ?_)
       rw [decide_eq_false (show ¬ (s.lo≠s.hi∧o.hi≠s.lo∧o.lo≠s.hi) from fun h=>m3 h.2.2)]
       exact ⟨_,(by repeat (first|exact zT _|refine zO G ?_)),yK.out⟩
     ·repeat (first|refine yJ ?_|refine yI G G G G G ?_|refine W_skip G G G G ?_)
      rw [decide_eq_false (show ¬ (s.lo≠s.hi∧o.hi≠s.lo∧o.lo≠s.hi) from fun h=>m2 h.2.1)]
      exact ⟨_,(by repeat (first|exact zT _|refine zO G ?_)),yK.out⟩
    ·repeat (first|refine yJ ?_|refine yI G G G G G ?_|refine W_skip G G G G ?_)
     rw [decide_eq_false (show ¬ (s.lo≠s.hi∧o.hi≠s.lo∧o.lo≠s.hi) from fun h=>m1 h.1)]
     exact ⟨_,(by repeat (first|exact zT _|refine zO G ?_)),yK.out⟩
   ·rintro g' _ ⟨R,hsub,rfl⟩
    refine hold_env hsub ?_
    clear hsub g'
    refine hold_cond_d G (fun n3=>?_) (fun n3=>?_)
    ·repeat (first|refine zF ?_|refine zB ?_)
     refine zY G G (zQ G G G) (code22_spec w0 3) ?_
     rintro _ _ ⟨rfl,rfl⟩
     repeat (first|refine zE ?_|refine zM ?_|refine L_stA G (vs:=[_,_]) G G G G (c':=[_,_]) G G ?_)
     rw [show installF s o=(s,⟨3,[]⟩) by unfold installF; rw [if_neg n1,if_neg n2,if_pos n3]]
     exact ⟨[_],X+(stC b (cellsS s (.slice a1 s.blocks.length c1) (.slice a2 s.kept.length c2) (.slice a3 s.locks.length c3) (.slice a4 s.preps.length c4) (.slice a5 s.dead.length c5) (.slice a6 s.outs.length c6) (.slice a7 s.sess.length c7))+h1+h2+h3+h4+h5+h6+h7),_,⟨⟨_,rfl,zL G G G⟩,trivial⟩,PostS.same hs,yK.out⟩
    ·have ef:installF s o=match partF o.data o.lo o.hi with|none=>(s,⟨4,[]⟩)|some (l,k)=>(comeS s o l k,⟨0,[]⟩):=by unfold installF; rw [if_neg n1,if_neg n2,if_neg n3]; cases partF o.data o.lo o.hi<;>rfl
     repeat (first|refine zF ?_|refine zB ?_|refine zZ G G G G G ?_|refine L_ld G G G G G ?_|refine zP ?_|refine L_build (vs:=[_,_]) (cells:=[_,_]) G G G G ?_)
     refine zY G G (zQ G G G) hpart ?_
     rintro _ _ (⟨hpn,rfl,rfl⟩|⟨l,kk,vl,vk,D,hl,hkk,hps,rfl,ol,okk,rfl⟩)
     ·rw [hpn] at ef
      repeat (first|refine zF ?_|refine zB ?_|refine zE ?_|refine zK G G G ?_|refine zJ G ?_)
      refine zY G G (zQ G G G) (code22_spec w0 4) ?_
      rintro _ _ ⟨rfl,rfl⟩
      repeat (first|refine zE ?_|refine zM ?_|refine L_stA G (vs:=[_,_]) G G G G (c':=[_,_]) G G ?_)
      rw [ef]
      exact ⟨[_],X+(stC b (cellsS s (.slice a1 s.blocks.length c1) (.slice a2 s.kept.length c2) (.slice a3 s.locks.length c3) (.slice a4 s.preps.length c4) (.slice a5 s.dead.length c5) (.slice a6 s.outs.length c6) (.slice a7 s.sess.length c7))+h1+h2+h3+h4+h5+h6+h7),_,⟨⟨_,rfl,zL G G G⟩,trivial⟩,PostS.same hs,yK.out⟩
     ·rw [hps] at ef
      have hpo:PartOk o.lo o.hi l kk∧l.length≤100000∧kk.length≤100000:=by
       unfold partF at hps
       split at hps
       ·rename_i hh
        simp only [Option.some.injEq,Prod.mk.injEq] at hps
        obtain ⟨rfl,rfl⟩:=hps
        exact ⟨hh.2,by omega,by omega⟩
       ·cases hps
      have hapt:=hap l kk hps n3
      obtain ⟨hpo,ll,lk⟩:=hpo
      obtain ⟨al,cl,rfl⟩:=ol.shape
      obtain ⟨ak,ck,rfl⟩:=okk.shape
      obtain ⟨esk,rowk,allk⟩:=id okk
      have hlen2:esk.length=kk.length:=allk.length
      obtain ⟨nlo,hnlo⟩:∃ x,x=if s.lo=s.hi then o.lo else s.lo:=⟨_,rfl⟩
      obtain ⟨nhi,hnhi⟩:∃ x,x=if s.lo=s.hi then o.hi else s.hi:=⟨_,rfl⟩
      repeat (first|refine zF ?_|refine zB ?_|refine zE ?_|refine zK G G G ?_|refine zP ?_|refine zI G ?_)
      refine yC [] [0,1,2,3,4,5,6,7,8,9,10] (by kernel_rfl) G (by kernel_rfl) (by kernel_rfl) ?_
      repeat (first|refine yI G G G G G ?_|refine yE G G G G (yA G G G) ?_|refine W_load G G G G (yF G) (zG G (zS G)) ?_)
      refine yE G G G G (pv_eql G G) ?_
      repeat (refine yJ ?_)
      skip
      refine hold_join (fun g' L'=>∃ (R:Hp),Sub g' [(0,.pointer (some ⟨b,0,none⟩)),(3,.pointer (some ⟨b3,0,none⟩)),(4,.pointer (some ⟨b4,0,none⟩)),(5,.slice al l.length cl),(6,.slice ak kk.length ck)]∧L'=X+D+hl+hkk+(stC b [.int .i64 (nlo),.int .i64 (nhi),.int .i64 (s.epoch),.slice a1 s.blocks.length c1,.slice a2 s.kept.length c2,.slice a3 s.locks.length c3,.slice a4 s.preps.length c4,.slice a5 s.dead.length c5,.slice a6 s.outs.length c6,.slice a7 s.sess.length c7]+h1+h2+h3+h4+h5+h6+h7)+opC b3 o (.slice x1 o.parts.length y1) (.slice x2 o.reads.length y2) (.slice x3 o.writes.length y3) (.slice x4 o.data.length y4)+resC b4+fr+R) ?_ ?_
      ·refine hold_cond_d G (fun q=>?_) (fun q=>?_)
       ·skip
        refine yC [9,13] [0,1,2,3,4,5,6,7,8,9,10,11,12,13] (by kernel_rfl) G (by kernel_rfl) (by kernel_rfl) ?_
        repeat (first|refine yI G G G G G ?_|refine yE G G G G (yA G G G) ?_|refine W_load G G G G (yF G) (zG G (zS G)) ?_)
        refine W_eff G G G G (ev_store G G G G G (c':=[_,_,_,_,_,_,_,_,_,_]) G) (Kept.all _) ?_
        rintro _ _ rfl
        refine ⟨(by repeat (first|exact trivial|exact zG G (zS G)|exact zL G G G|exact zX G (by assumption) G|exact zH G (by assumption) G|exact zH G (by assumption) (by assumption)|refine ⟨?_,?_⟩)),?_⟩
        repeat (first|refine yI G G G G G ?_|refine yE G G G G (yA G G G) ?_)
        refine W_eff G G G G (ev_store G G G G G (c':=[_,_,_,_,_,_,_,_,_,_]) G) (Kept.all _) ?_
        rintro _ _ rfl
        refine ⟨(by repeat (first|exact trivial|exact zG G (zS G)|exact zL G G G|exact zX G (by assumption) G|exact zH G (by assumption) G|exact zH G (by assumption) (by assumption)|refine ⟨?_,?_⟩)),?_⟩
        repeat (refine yJ ?_)
        skip
        rw [show nlo=o.lo by rw [hnlo,if_pos q],show nhi=o.hi by rw [hnhi,if_pos q]]
        exact ⟨_,(by repeat (first|exact zT _|refine zO G ?_)),yK.out⟩
       ·repeat (refine zP ?_)
        rw [show nlo=s.lo by rw [hnlo,if_neg q],show nhi=s.hi by rw [hnhi,if_neg q]]
        exact ⟨_,(by repeat (first|exact zT _|refine zO G ?_)),yK.out⟩
      ·clear R
       rintro g' _ ⟨R,hsub,rfl⟩
       refine hold_env hsub ?_
       clear hsub g'
       repeat (refine zF ?_)
       refine yC [21,25] [0,1,2,3,4,5,6,7,8,9,10,11,12,13,14,15,16,17,18,19,20,21,22,23,24,25] (by kernel_rfl) G (by kernel_rfl) (by kernel_rfl) ?_
       repeat (first|refine yI G G G G G ?_|refine yE G G G G (yA G G G) ?_|refine W_load G G G G (yF G) (zG G (zS G)) ?_)
       refine yE G G G G (pv_min2 G G) ?_
       repeat (first|refine yI G G G G G ?_|refine yE G G G G (yA G G G) ?_|refine W_load G G G G (yF G) (zG G (zS G)) ?_)
       refine yE G G G G (pv_max2 G G) ?_
       repeat (first|refine yI G G G G G ?_|refine yE G G G G (yA G G G) ?_)
       refine W_eff G G G G (ev_store G G G G G (c':=[_,_,_,_,_,_,_,_,_,_]) G) (.keep (.keep (.keep (.drop (by kernel_rfl) .nil)))) ?_
       rintro _ _ rfl
       refine ⟨(by repeat (first|exact trivial|exact zG G (zS G)|exact zL G G G|exact zX G (by assumption) G|exact zH G (by assumption) G|exact zH G (by assumption) (by assumption)|refine ⟨?_,?_⟩)),?_⟩
       repeat (first|refine yI G G G G G ?_|refine yE G G G G (yA G G G) ?_)
       refine W_eff G G G G (ev_store G G G G G (c':=[_,_,_,_,_,_,_,_,_,_]) G) (.keep (.drop (by kernel_rfl) (.keep .nil))) ?_
       rintro _ _ rfl
       refine ⟨(by repeat (first|exact trivial|exact zG G (zS G)|exact zL G G G|exact zX G (by assumption) G|exact zH G (by assumption) G|exact zH G (by assumption) (by assumption)|refine ⟨?_,?_⟩)),?_⟩
       repeat (refine yJ ?_)
       repeat (first|refine zF ?_|refine zB ?_|refine zK G G G ?_|refine zZ G G G G G ?_|refine L_ld G G G G G ?_)
       refine zY G G (zQ G G G) (join19_spec w0 (X+h1+(D+hl)) (.slice a1 s.blocks.length c1) (.slice al l.length cl) s.blocks l (o1.rd0.mono G) hk.blocks (ol.rd (R:=X+h1) (hf:=⟨by ac_rfl⟩)) (by omega) (fun x hx=>by have:=hpo.1.four x hx; omega)) ?_
       rintro vb _ ⟨E2,h1',o1',rfl⟩
       obtain ⟨a1',c1',rfl⟩:=o1'.shape
       repeat (first|refine zF ?_|refine zB ?_|refine zE ?_|refine zK G G G ?_|refine zZ G G G G G ?_|refine L_ld G G G G G ?_|refine L_st G G G (c':=[_,_,_,_,_,_,_,_,_,_]) G G G G ?_)
       refine L_eff G G (ev_appendL (X:=X+D) (xs:=s.kept) (ns:=kk) (es2:=esk) (h:=h2) G G (o2.mono G) rowk.rd (allk.mono fun x e he=>Rep.mono (hadd_comm _ _) he) G G G G G (by omega)) ?_
       rintro vkk _ ⟨h2',o2',rfl⟩
       obtain ⟨a2',c2',rfl⟩:=o2'.shape
       repeat (first|refine zF ?_|refine zB ?_|refine zE ?_|refine zK G G G ?_|refine zZ G G G G G ?_|refine L_ld G G G G G ?_|refine L_st G G G (c':=[_,_,_,_,_,_,_,_,_,_]) G G G G ?_)
       refine zY G G (zQ G G G) (sortStableKpt_spec w0 (X+D) (s.kept++kk) _ h2' 219 [] ordK ordK_ordr o2' (by rw [List.length_append]; omega) (fun Y x y e f he hf=>Spec.frameL (hzero_add _).symm (orderKept_spec w0 x y e f Y Y he hf))) ?_
       rintro _ _ ⟨rfl,ys,h2'',pys,sys,oys,rfl⟩
       obtain rfl:=sortK_eq hk.kept hpo.2.2.1 hapt pys (sys.imp fun h h'=>h (ordK_neg.2 h'))
       have lys:(s.kept++kk).length=(sortK (s.kept++kk)).length:=(sortK_perm _).length_eq.symm
       rw [lys] at oys ⊢
       repeat (first|refine zF ?_|refine zB ?_|refine zE ?_|refine zK G G G ?_|refine zZ G G G G G ?_|refine L_ld G G G G G ?_|refine L_st G G G (c':=[_,_,_,_,_,_,_,_,_,_]) G G G G ?_)
       refine zY G G (zQ G G G) (code22_spec w0 0) ?_
       rintro _ _ ⟨rfl,rfl⟩
       repeat (first|refine zE ?_|refine zM ?_|refine L_stA G (vs:=[_,_]) G G G G (c':=[_,_]) G G ?_)
       rw [ef]
       subst hnlo hnhi
       exact ⟨[_],X+(D+E2)+(stC b [.int .i64 (min (if s.lo=s.hi then o.lo else s.lo) o.lo),.int .i64 (max (if s.lo=s.hi then o.hi else s.hi) o.hi),.int .i64 (o.epoch),(.slice a1' (joinB s.blocks l).length c1'),(.slice a2' (sortK (s.kept++kk)).length c2'),.slice a3 s.locks.length c3,.slice a4 s.preps.length c4,.slice a5 s.dead.length c5,.slice a6 s.outs.length c6,.slice a7 s.sess.length c7]+h1'+h2''+h3+h4+h5+h6+h7),_,⟨⟨_,rfl,zL G G G⟩,trivial⟩,
        PostS.code (s:=comeS s o l kk) ⟨a1',c1',a2',c2',a3,c3,a4,c4,a5,c5,a6,c6,a7,c7,h1',h2'',h3,h4,h5,h6,h7,o1'.mono (show X+(D+E2)=E2+(X+D) by ac_rfl),oys.mono (show X+(D+E2)=X+D+E2 by ac_rfl),o3,o4.mono G,o5,o6.mono G,o7.mono G,rfl⟩,yK.out⟩
end Sl
end Go.Proofs.YtpkealohodeifaaGreat
namespace Go.Proofs.YtpkealohodeifaaGreat
open Go Go.RowKit
namespace Sl
set_option maxRecDepth 4000
def Num (n:Int):Prop:=0≤n∧n≤1099511627776
theorem Num.i64 {n:Int} (h:Num n):I64 n:=by unfold Num at h; unfold I64; omega
structure OpOk (o:Opn):Prop where
 kind:1≤o.kind∧o.kind≤11
 client:0≤o.client∧o.client≤4
 seq:Num o.seq
 txn:Num o.txn
 age:Num o.age
 epoch:Num o.epoch
 snap:Num o.snap
 one:o.kind=1∨o.kind=2∨o.kind=3→1≤o.txn
 val:o.kind=3→1≤o.value∧o.value≤2
 block:0≤o.block∧o.block≤63
 span:SpanP o
 parts:o.parts.length≤4∧∀ n∈o.parts,1≤n∧n≤4
 reads:o.reads.length≤16∧∀ n∈o.reads,0≤n∧n≤63
 writes:o.writes.length≤8∧∀ w∈o.writes,(0≤w.block∧w.block≤63)∧w.data.length=4
 data:o.data.length≤32768
theorem check_ok {o:Opn} (h:checkF o=0):OpOk o:=by
 unfold checkF at h
 by_cases h1:¬ (1≤o.kind∧o.kind≤11)
 ·rw [if_pos h1] at h; exact absurd h (by decide)
 rw [if_neg h1] at h
 by_cases h2:¬ BareP o
 ·rw [if_pos h2] at h; exact absurd h (by decide)
 rw [if_neg h2] at h
 by_cases h3:4<o.parts.length∨16<o.reads.length∨8<o.writes.length
 ·rw [if_pos h3] at h; exact absurd h (by decide)
 rw [if_neg h3] at h
 by_cases h4:32768<o.data.length
 ·rw [if_pos h4] at h; exact absurd h (by decide)
 rw [if_neg h4] at h
 by_cases h5:¬ (PlacedP o∧InAll o.parts 1 4∧InAll o.reads 0 63∧InAll (o.writes.map Wr.block) 0 63)
 ·rw [if_pos h5] at h; exact absurd h (by decide)
 rw [if_neg h5] at h
 by_cases h6:¬ WritesP o
 ·rw [if_pos h6] at h; exact absurd h (by decide)
 have h1:=Classical.byContradiction h1
 obtain ⟨⟨p1,p2,p3,p4,p5⟩,q1,q2,q3⟩:=Classical.byContradiction h5
 have h6:=Classical.byContradiction h6
 obtain ⟨c1,c2,c3,c4,c5,c6⟩:=p1
 exact ⟨h1,c1,c2,c3,c4,c5,c6,p2.1,fun hk=>p3.1 (.inl hk),p3.2,p4,⟨by omega,q1⟩,⟨by omega,q2⟩,⟨by omega,fun w hw=>⟨q3 _ (List.mem_map_of_mem hw),h6 w hw⟩⟩,by omega⟩
structure PrpIn (p:Prp):Prop where
 txn:1≤p.txn∧p.txn≤1099511627776
 age:Num p.age
 snap:Num p.snap
 span:0≤p.lo∧p.lo≤p.hi∧p.hi≤64
 parts:p.parts.length≤4∧∀ n∈p.parts,1≤n∧n≤4
 writes:p.writes.length≤8∧∀ w∈p.writes,(0≤w.block∧w.block≤63)∧w.data.length=4
def SmallR (r:Res):Prop:=I64 r.code∧r.data.length≤100000000
structure Good (n:Nat) (s:Shd):Prop where
 ok:Okay s
 held:Held s.lo s.hi s.locks s.dead s.preps
 rng:0≤s.lo∧s.lo≤s.hi∧s.hi≤64
 ep:Num s.epoch
 bIn:∀ x∈s.blocks,s.lo≤x.no∧x.no<s.hi
 kIn:∀ x∈s.kept,(s.lo≤x.no∧x.no<s.hi)∧I64 x.snap
 prs:∀ p∈s.preps,PrpIn p
 outs:∀ u∈s.outs,(Num u.epoch∧Num u.lo∧Num u.hi)∧u.data.length≤100000000
 sess:∀ x∈s.sess,(Num x.client∧Num x.seq)∧SmallR x.res
 dl:s.dead.length≤4700*n
 pl:s.preps.length≤n
 kl:s.kept.length≤1400*n
 ol:s.outs.length≤n
 xl:s.sess.length≤n
theorem Good.more {n:Nat} {s:Shd} (h:Good n s):Good (n+1) s :=
 ⟨h.ok,h.held,h.rng,h.ep,h.bIn,h.kIn,h.prs,h.outs,h.sess,by have:=h.dl; omega,by have:=h.pl; omega,by have:=h.kl; omega,by have:=h.ol; omega,by have:=h.xl; omega⟩
theorem Good.sized {n:Nat} {s:Shd} (h:Good n s) (hn:n≤190):Sized s :=
 ⟨by have:=h.dl; omega,by have:=h.pl; omega,by have:=h.kl; omega,by have:=h.ol; omega,by have:=h.xl; omega⟩
theorem Good.ld {n:Nat} {s:Shd} (h:Good n s) {ls:List Lk} {d:List Int} (hh:Held s.lo s.hi ls d s.preps) (hs:Safe ls) (hr:Rises d) (hl:d.length≤4700*(n+1)):Good (n+1) (ldS s ls d) :=
 ⟨⟨h.ok.blocks,h.ok.kept,hs,hr,h.ok.preps⟩,hh,h.rng,h.ep,h.bIn,h.kIn,h.prs,h.outs,h.sess,hl,by have:=h.pl; exact Nat.le_trans this (Nat.le_succ _),by have:=h.kl; show s.kept.length≤_; omega,by have:=h.ol; exact Nat.le_trans this (Nat.le_succ _),by have:=h.xl; exact Nat.le_trans this (Nat.le_succ _)⟩
theorem not_prep {s:Shd} {t:Int} (h:¬ isPrep s t=true):∀ p∈s.preps,p.txn≠t:=fun p hp e=>h (List.any_eq_true.2 ⟨p,hp,decide_eq_true e⟩)
theorem endS_good {n:Nat} {s:Shd} (h:Good n s) {t:Int} (ht:1≤t∧t≤1099511627776) (hp:∀ p∈s.preps,p.txn≠t):Good (n+1) (endS s t):=by
 have hl:=endD_len [t] s.dead
 have:=h.dl
 rw [List.length_singleton] at hl
 exact h.ld (ls:=withoutL s.locks [t]) (d:=endD s.dead [t]) (h.held.ends (by simpa using ht) (by simpa using hp)) (h.ok.locks.without _) (endD_rises _ h.ok.dead) (by omega)
theorem forget_held {n:Nat} {s:Shd} (h:Good n s) (t:Int):Held s.lo s.hi s.locks (forgetS s t).dead s.preps∧Rises (forgetS s t).dead∧(forgetS s t).dead.length≤s.dead.length∧(t∉s.dead→t∉(forgetS s t).dead) :=
 ⟨h.held.sub fun x hx=>(List.mem_filter.1 hx).1,List.Pairwise.filter _ h.ok.dead,List.length_filter_le _ _,fun hn hm=>hn (List.mem_filter.1 hm).1⟩
theorem took_of {n:Nat} {s:Shd} (h:Good n s) {t:Int} (hd:t∉s.dead) (hp:∀ p∈s.preps,p.txn≠t) {ks:List Lk} (hk:∀ k∈ks,k.txn=t∧(s.lo≤k.block∧k.block<s.hi)∧(1≤k.txn∧k.txn≤1099511627776)∧(0≤k.age∧k.age≤1099511627776)) :
  Took (forgetS s t) t ks (tkAll (forgetS s t) ks) :=
 tkAll_took ks (forgetS s t) (forget_held h t).1 h.ok.locks (forget_held h t).2.1 ((forget_held h t).2.2.2 hd) hp hk
theorem Took.good {n:Nat} {s:Shd} (h:Good n s) {t:Int} {ks:List Lk} {x:Shd × Int} (hx:Took (forgetS s t) t ks x) (hl:ks.length≤72):Good (n+1) x.1∧x.1=ldS s x.1.locks x.1.dead:=by
 have e:x.1=ldS s x.1.locks x.1.dead:=hx.same
 have h1:=hx.len
 have h2:=(forget_held h t).2.2.1
 have h3:=h.dl
 refine ⟨?_,e⟩
 rw [e]
 exact h.ld hx.held hx.safe hx.rises (by omega)
theorem smallR_code {n:Int} (h:I64 n):SmallR ⟨n,[]⟩:=⟨h,Nat.zero_le _⟩
theorem lockS_code (ls:List Lk) (d:List Int) (k:Lk) (fx:List Int):(lockS ls d k fx).2.2=0∨(lockS ls d k fx).2.2=11∨(lockS ls d k fx).2.2=24:=by
 rcases lockS_cases ls d k fx with e|e|⟨a,w,_,e⟩<;>rw [e]<;>simp
theorem tkAll_code :∀ (ks:List Lk) (s:Shd),(tkAll s ks).2=0∨(tkAll s ks).2=11∨(tkAll s ks).2=24
 | [],s=>.inl G
 | k::ks,s=>by
  have es:tkAll s (k::ks)=ks.foldl tkStep (tkS s k):=by
   show ks.foldl tkStep (tkStep (s,0) k)=_
   rw [show tkStep (s,0) k=tkS s k by unfold tkStep; rw [if_neg (by simp)]]
  rw [es]
  by_cases hz:(tkS s k).2=0
  ·have e2:ks.foldl tkStep (tkS s k)=tkAll (tkS s k).1 ks:=by unfold tkAll; rw [← hz]
   rw [e2]; exact tkAll_code ks _
  ·rw [tkStep_bad hz]
   exact lockS_code s.locks s.dead k (s.preps.map Prp.txn)
theorem code_i64 {e:Int} (h:e=0∨e=11∨e=24):I64 e:=by unfold I64; omega
theorem inR_iff {s:Shd} {n:Int}:inR s n=true↔s.lo≤n∧n<s.hi:=by unfold inR; rw [decide_eq_true_eq]
theorem readF_good {n:Nat} {s:Shd} (h:Good n s) {o:Opn} (ho:OpOk o) (hk:o.kind=1):Good (n+1) (readF s o).1∧SmallR (readF s o).2:=by
 have ht:1≤o.txn∧o.txn≤1099511627776:=⟨ho.one (.inl hk),ho.txn.2⟩
 unfold readF
 split
 ·exact ⟨h.more,smallR_code (by decide)⟩
 ·rename_i h1
  split
  ·exact ⟨h.more,smallR_code (by decide)⟩
  ·rename_i h2
   split
   ·exact ⟨endS_good h ht (not_prep h1),smallR_code (by decide)⟩
   ·rename_i h3
    have hr:inR s o.block=true:=by
     cases hb:inR s o.block
     ·exact absurd (.inr hb) h3
     ·rfl
    have tk:=took_of h h2 (not_prep h1) (ks:=[⟨o.block,o.txn,o.age,false⟩]) (by
     intro k hk'
     rw [List.mem_singleton] at hk'; subst hk'
     exact ⟨rfl,inR_iff.1 hr,ht,ho.age⟩)
    have e:tkAll (forgetS s o.txn) [⟨o.block,o.txn,o.age,false⟩]=tkS (forgetS s o.txn) ⟨o.block,o.txn,o.age,false⟩:=by
     show tkStep (forgetS s o.txn,0) _=_
     unfold tkStep; rw [if_neg (by simp)]
    rw [e] at tk
    refine ⟨(tk.good h (by simp)).1,?_⟩
    split
    ·exact smallR_code (code_i64 (lockS_code _ _ _ _))
    ·exact ⟨(show I64 0 by decide),by have:=getB_len h.ok.blocks o.block; show (getB s.blocks o.block).length≤_; omega⟩
theorem mem_insP {ps:List Prp} {p x:Prp} (h:x∈insP ps p):x=p∨x∈ps:=by
 unfold insP at h
 rcases List.mem_append.1 h with h|h
 ·exact .inr (List.mem_filter.1 h).1
 ·rcases List.mem_cons.1 h with rfl|h
  ·exact .inl G
  ·exact .inr (List.mem_filter.1 h).1
theorem insP_len (ps:List Prp) (p:Prp):(insP ps p).length≤ps.length+1:=by
 have:=filter2_len (fun x:Prp=>decide (x.txn<p.txn)) (fun x:Prp=>decide (p.txn<x.txn)) (fun x h=>decide_eq_false (by have:=of_decide_eq_true h; omega)) ps
 unfold insP
 rw [List.length_append,List.length_cons]; omega
theorem insP_rises {ps:List Prp} (h:ps.Pairwise fun a b=>a.txn<b.txn) (p:Prp):(insP ps p).Pairwise fun a b=>a.txn<b.txn:=by
 unfold insP
 refine List.pairwise_append.2 ⟨h.filter _,List.pairwise_cons.2 ⟨fun x hx=>of_decide_eq_true (List.mem_filter.1 hx).2,h.filter _⟩,?_⟩
 intro x hx y hy
 have h1:x.txn<p.txn:=of_decide_eq_true (List.mem_filter.1 hx).2
 rcases List.mem_cons.1 hy with rfl|hy
 ·exact h1
 ·have h2:p.txn<y.txn:=of_decide_eq_true (List.mem_filter.1 hy).2
  omega
theorem cov_bounds {s:Shd} {o:Opn} (hr:s.lo≤s.hi) {j:Nat} (h:j<covN s o):s.lo≤covLo s o+(j:Int)∧covLo s o+(j:Int)<s.hi∧o.lo≤covLo s o+(j:Int)∧covLo s o+(j:Int)<o.hi:=by
 unfold covN at h
 split at h
 ·unfold covLo covHi at *; omega
 ·omega
theorem covN_le {s:Shd} {o:Opn} (hr:0≤s.lo∧s.hi≤64):covN s o≤64:=by
 unfold covN
 split
 ·unfold covLo covHi; omega
 ·omega
theorem prepLks_ok {n:Nat} {s:Shd} (h:Good n s) {o:Opn} (ho:OpOk o) (hk:o.kind=2) (hout:¬ outF s o=true):(∀ k∈prepLks s o,k.txn=o.txn∧(s.lo≤k.block∧k.block<s.hi)∧(1≤k.txn∧k.txn≤1099511627776)∧(0≤k.age∧k.age≤1099511627776))∧(prepLks s o).length≤72:=by
 have ht:1≤o.txn∧o.txn≤1099511627776:=⟨ho.one (.inr (.inl hk)),ho.txn.2⟩
 constructor
 ·intro k hm
  unfold prepLks at hm
  rcases List.mem_append.1 hm with hm|hm
  ·obtain ⟨w,hw,rfl⟩:=List.mem_map.1 hm
   refine ⟨rfl,?_,ht,ho.age⟩
   have:inR s w.block=true:=by
    cases hb:inR s w.block
    ·refine absurd ?_ hout
     unfold outF
     rw [Bool.or_eq_true]
     exact .inr (List.any_eq_true.2 ⟨w,hw,by rw [hb]; rfl⟩)
    ·rfl
   exact inR_iff.1 this
  ·obtain ⟨j,hj,rfl⟩:=List.mem_map.1 hm
   have:=cov_bounds h.rng.2.1 (List.mem_range.1 hj)
   exact ⟨rfl,⟨this.1,this.2.1⟩,ht,ho.age⟩
 ·rw [prepLks_len]
  have:=covN_le (o:=o) (s:=s) ⟨h.rng.1,h.rng.2.2⟩
  have:=ho.writes.1
  omega
theorem prepareF_good {n:Nat} {s:Shd} (h:Good n s) {o:Opn} (ho:OpOk o) (hk:o.kind=2):Good (n+1) (prepareF s o).1∧SmallR (prepareF s o).2:=by
 have ht:1≤o.txn∧o.txn≤1099511627776:=⟨ho.one (.inr (.inl hk)),ho.txn.2⟩
 unfold prepareF
 split
 ·exact ⟨h.more,smallR_code (by decide)⟩
 rename_i h1
 split
 ·exact ⟨h.more,smallR_code (by decide)⟩
 rename_i h2
 split
 ·exact ⟨endS_good h ht (not_prep h1),smallR_code (by decide)⟩
 rename_i h3
 split
 ·exact ⟨endS_good h ht (not_prep h1),smallR_code (by decide)⟩
 rename_i h4
 obtain ⟨hks,hkl⟩:=prepLks_ok h ho hk (fun hq=>h3 (.inr hq))
 have tk:=took_of h h2 (not_prep h1) hks
 obtain ⟨g1,g2⟩:=tk.good h hkl
 split
 ·exact ⟨g1,smallR_code (code_i64 (tkAll_code _ _))⟩
 rename_i h5
 have h5:=Classical.byContradiction h5
 obtain ⟨m1,m2,m3⟩:=tk.mine h5
 have hep:(tkAll (forgetS s o.txn) (prepLks s o)).1.preps=s.preps:=by rw [g2]; rfl
 have helo:(tkAll (forgetS s o.txn) (prepLks s o)).1.lo=s.lo∧(tkAll (forgetS s o.txn) (prepLks s o)).1.hi=s.hi:=by rw [g2]; exact ⟨rfl,rfl⟩
 generalize (tkAll (forgetS s o.txn) (prepLks s o)).1=x at *
 have hsp:0≤o.lo∧o.lo≤o.hi∧o.hi≤64:=by
  obtain ⟨s1,s2⟩:=ho.span
  by_cases hsn:o.snap=0
  ·have:=s1 hk hsn; omega
  ·have:=s2 (.inl ⟨hk,hsn⟩); omega
 have hpp:∀ p∈insP s.preps (prepOf o),p=prepOf o∨p∈s.preps:=fun p hp=>mem_insP hp
 refine ⟨⟨⟨g1.ok.blocks,g1.ok.kept,g1.ok.locks,g1.ok.dead,insP_rises h.ok.preps _⟩,⟨g1.held.lks,g1.held.apart,fun p hp=>?_,fun p hp w hw=>?_,g1.held.dn⟩,g1.rng,g1.ep,g1.bIn,g1.kIn,fun p hp=>?_,g1.outs,g1.sess,g1.dl,?_,g1.kl,g1.ol,g1.xl⟩,smallR_code (by decide)⟩
 ·rcases hpp p hp with rfl|hp
  ·exact m1
  ·exact g1.held.pd p (by rw [hep]; exact hp)
 ·rcases hpp p hp with rfl|hp
  ·refine m2 ⟨w.block,o.txn,o.age,true⟩ (List.mem_append_left _ (List.mem_map.2 ⟨w,hw,rfl⟩))
  ·exact g1.held.wr p (by rw [hep]; exact hp) w hw
 ·rcases hpp p hp with rfl|hp
  ·exact ⟨ht,ho.age,ho.snap,hsp,ho.parts,ho.writes⟩
  ·exact h.prs p hp
 ·have:=insP_len s.preps (prepOf o)
  have:=h.pl
  show (insP s.preps (prepOf o)).length≤_
  omega
theorem mem_setB {l:List Blk} {no:Int} {b:List Bt} {x:Blk} (h:x∈setB l no b):x∈l∨x.no=no:=by
 unfold setB newB at h
 split at h
 ·rcases List.mem_append.1 h with h|h
  ·rcases List.mem_append.1 h with h|h
   ·exact .inl (List.mem_filter.1 h).1
   ·split at h
    ·simp at h
    ·rw [List.mem_singleton] at h; subst h; exact .inr G
  ·exact .inl (List.mem_filter.1 h).1
 ·exact .inl h
theorem mem_wroteB :∀ (ws:List Wr) (l:List Blk) {x:Blk},x∈wroteB l ws→x∈l∨∃ w∈ws,x.no=w.block
 | [],_,_,h=>.inl h
 | w::ws,l,x,h=>by
  rcases mem_wroteB ws (setB l w.block w.data) h with h|⟨v,hv,e⟩
  ·rcases mem_setB h with h|h
   ·exact .inl h
   ·exact .inr ⟨w,List.mem_cons_self ..,h⟩
  ·exact .inr ⟨v,List.mem_cons_of_mem _ hv,e⟩
theorem mem_keepK {l:List Kpt} {snap no:Int} {d:List Bt} {x:Kpt} (h:x∈keepK l snap no d):x∈l∨x=⟨snap,no,d⟩:=by
 unfold keepK at h
 rcases List.mem_append.1 h with h|h
 ·exact .inl (List.mem_filter.1 h).1
 ·rcases List.mem_cons.1 h with rfl|h
  ·exact .inr G
  ·exact .inl (List.mem_filter.1 h).1
theorem mem_keptAll (bs:List Blk) (snap:Int):∀ (ns:List Int) (l:List Kpt) {x:Kpt},x∈keptAll l snap bs ns→x∈l∨∃ n∈ns,x=⟨snap,n,getB bs n⟩
 | [],_,_,h=>.inl h
 | n::ns,l,x,h=>by
  rcases mem_keptAll bs snap ns (keepK l snap n (getB bs n)) h with h|⟨v,hv,e⟩
  ·rcases mem_keepK h with h|h
   ·exact .inl h
   ·exact .inr ⟨n,List.mem_cons_self ..,h⟩
  ·exact .inr ⟨v,List.mem_cons_of_mem _ hv,e⟩
theorem commit_good {n:Nat} {s:Shd} (h:Good n s) {p:Prp} (hp:p∈s.preps):Okay (commitS s p)∧(∀ x∈(commitS s p).blocks,s.lo≤x.no∧x.no<s.hi)∧(∀ x∈(commitS s p).kept,(s.lo≤x.no∧x.no<s.hi)∧I64 x.snap)∧(commitS s p).kept.length≤1400*n+64:=by
 have hb:=wroteB_ok p.writes h.ok.blocks
 have hm:=mineF_len s.locks p
 have hl:=keptAll_len (wroteB s.blocks p.writes) p.snap (mineF s.locks p) s.kept
 have hkl:=h.kl
 refine ⟨⟨hb,keptAll_ok hb _ _ h.ok.kept,h.ok.locks,h.ok.dead,h.ok.preps⟩,fun x hx=>?_,fun x hx=>?_,by show (keptAll s.kept p.snap (wroteB s.blocks p.writes) (mineF s.locks p)).length≤_; omega⟩
 ·rcases mem_wroteB p.writes s.blocks hx with hx|⟨w,hw,e⟩
  ·exact h.bIn x hx
  ·obtain ⟨k,hk,e1,e2,e3⟩:=hasL_iff.1 (h.held.wr p hp w hw)
   rw [e,← e1]
   exact (h.held.lks k hk).1
 ·rcases mem_keptAll _ _ _ _ hx with hx|⟨m,hm,rfl⟩
  ·exact h.kIn x hx
  ·obtain ⟨_,_,_,_,_,_,hh⟩:=mine_mem hm
   obtain ⟨k,hk,e1,e2,e3⟩:=hasL_iff.1 hh
   exact ⟨by show s.lo≤m∧m<s.hi; rw [← e1]; exact (h.held.lks k hk).1,(h.prs p hp).snap.i64⟩
theorem decide1_good {n:Nat} {s:Shd} (h:Good n s) (o:Opn):Good (n+1) (decide1 s o)∧(decide1 s o).dead=s.dead∧(∀ p∈(decide1 s o).preps,p.txn≠o.txn)∧(decide1 s o).locks=s.locks:=by
 unfold decide1
 split
 ·rename_i p hf
  have hp:=List.mem_of_find?_eq_some hf
  have hpl:=filter_len (fun q=>!isTx o.txn q) s.preps
  have h1:=h.dl; have h2:=h.pl; have h3:=h.kl; have h4:=h.ol; have h5:=h.xl
  have hne:∀ q∈s.preps.filter (fun q=>!isTx o.txn q),q.txn≠o.txn:=fun q hq e=>by
   have:=(List.mem_filter.1 hq).2
   rw [show isTx o.txn q=true from decide_eq_true e] at this
   cases this
  have hsub:∀ q∈s.preps.filter (fun q=>!isTx o.txn q),q∈s.preps:=fun q hq=>(List.mem_filter.1 hq).1
  split
  ·obtain ⟨c1,c2,c3,c4⟩:=commit_good h hp
   exact ⟨⟨⟨c1.blocks,c1.kept,h.ok.locks,h.ok.dead,h.ok.preps.filter _⟩,h.held.less hsub,h.rng,h.ep,c2,c3,fun q hq=>h.prs q (hsub q hq),h.outs,h.sess,by show s.dead.length≤_; omega,by show (s.preps.filter _).length≤_; omega,by show (commitS s p).kept.length≤_; omega,by show s.outs.length≤_; omega,by show s.sess.length≤_; omega⟩,rfl,hne,rfl⟩
  ·exact ⟨⟨⟨h.ok.blocks,h.ok.kept,h.ok.locks,h.ok.dead,h.ok.preps.filter _⟩,h.held.less hsub,h.rng,h.ep,h.bIn,h.kIn,fun q hq=>h.prs q (hsub q hq),h.outs,h.sess,by show s.dead.length≤_; omega,by show (s.preps.filter _).length≤_; omega,by show s.kept.length≤_; omega,by show s.outs.length≤_; omega,by show s.sess.length≤_; omega⟩,rfl,hne,rfl⟩
 ·rename_i hf
  refine ⟨h.more,rfl,fun p hp e=>?_,rfl⟩
  have:=List.find?_eq_none.1 hf p hp
  exact this (decide_eq_true e)
theorem decideF_good {n:Nat} {s:Shd} (h:Good n s) {o:Opn} (ho:OpOk o) (hk:o.kind=3):Good (n+1) (decideF s o).1∧SmallR (decideF s o).2:=by
 have ht:1≤o.txn∧o.txn≤1099511627776:=⟨ho.one (.inr (.inr hk)),ho.txn.2⟩
 obtain ⟨g,e1,e2,e3⟩:=decide1_good h o
 unfold decideF
 refine ⟨?_,smallR_code (by decide)⟩
 show Good (n+1) (if _ then _ else _)
 split
 ·have hl:=endD_len [o.txn] s.dead
  rw [List.length_singleton] at hl
  have:=h.dl
  have hh:Held (decide1 s o).lo (decide1 s o).hi (withoutL (decide1 s o).locks [o.txn]) (endD (decide1 s o).dead [o.txn]) (decide1 s o).preps:=g.held.ends (by simpa using ht) (by simpa using e2)
  exact ⟨⟨g.ok.blocks,g.ok.kept,g.ok.locks.without _,endD_rises _ g.ok.dead,g.ok.preps⟩,hh,g.rng,g.ep,g.bIn,g.kIn,g.prs,g.outs,g.sess,by show (endD (decide1 s o).dead [o.txn]).length≤_; rw [e1]; omega,g.pl,g.kl,g.ol,g.xl⟩
 ·exact g
theorem mem_ofS {s:Shd} {lo hi x:Int}:x∈ofS s lo hi↔∃ k∈s.locks,lo≤k.block∧k.block<hi∧k.txn=x:=by
 unfold ofS
 rw [mem_compI,mem_sortI]
 unfold ofL
 rw [List.mem_map]
 constructor
 ·rintro ⟨k,hk,rfl⟩
  obtain ⟨h1,h2⟩:=List.mem_filter.1 hk
  simp only [spanB,Bool.and_eq_true,decide_eq_true_eq] at h2
  exact ⟨k,h1,h2.1,h2.2,rfl⟩
 ·rintro ⟨k,hk,h1,h2,rfl⟩
  exact ⟨k,List.mem_filter.2 ⟨hk,by simp only [spanB,Bool.and_eq_true,decide_eq_true_eq]; exact ⟨h1,h2⟩⟩,rfl⟩
theorem ofS_len (s:Shd) (h:s.locks.length≤64) (lo hi:Int):(ofS s lo hi).length≤64:=by
 unfold ofS
 have q1:=compI_le (sortI (ofL s.locks lo hi))
 have q2:=ofL_le s.locks lo hi
 rw [sortI_length] at q1; omega
theorem inS_iff {lo hi n:Int}:inS lo hi n=true↔lo≤n∧n<hi:=by unfold inS; rw [decide_eq_true_eq]
theorem out_span {s:Shd} {lo hi n:Int} (hlh:lo<hi) (hc:¬ (lo<s.lo∨s.hi<hi∨(lo≠s.lo∧hi≠s.hi))) (h1:s.lo≤n∧n<s.hi) (h2:¬ (lo≤n∧n<hi)):(goneS s lo hi).lo≤n∧n<(goneS s lo hi).hi:=by
 show (if _ then _ else _)≤n∧n<(if _ then _ else _)
 split
 ·omega
 ·split<;>omega
theorem partData_len {n:Nat} {s:Shd} (h:Good n s) (hn:n≤190) (lo hi:Int):(partData s lo hi).length≤100000000:=by
 have hl:=partE_len (l:=s.blocks.filter fun x=>inS lo hi x.no) (k:=s.kept.filter (inK lo hi)) (fun x hx=>h.ok.blocks.four x (List.mem_filter.1 hx).1) (fun x hx=>h.ok.kept.1 x (List.mem_filter.1 hx).1)
 have h1:=filter_len (fun x:Blk=>inS lo hi x.no) s.blocks
 have h2:=filter_len (inK lo hi) s.kept
 have h3:=h.ok.blocks.len
 have h4:=h.kl
 unfold partData
 omega
theorem freezeF_good {n:Nat} {s:Shd} (h:Good n s) (hn:n≤190) {o:Opn} (ho:OpOk o) (hk:o.kind=5):Good (n+1) (freezeF s o).1∧SmallR (freezeF s o).2:=by
 have hsp:=ho.span.2 (.inr (.inl hk))
 unfold freezeF
 split
 ·rename_i u hu
  exact ⟨h.more,(show I64 0 by decide),(h.outs u (List.mem_of_find?_eq_some hu)).2⟩
 split
 ·exact ⟨h.more,smallR_code (by decide)⟩
 split
 ·exact ⟨h.more,smallR_code (by decide)⟩
 rename_i hc
 split
 ·exact ⟨h.more,smallR_code (by decide)⟩
 rename_i hb
 have hpd:=partData_len h hn o.lo o.hi
 have hof:=ofS_len s h.ok.locks.few o.lo o.hi
 have hdl:=endD_len (ofS s o.lo o.hi) s.dead
 have hkl:=filter_len (fun x=>!inK o.lo o.hi x) s.kept
 have h1:=h.dl; have h2:=h.pl; have h3:=h.kl; have h4:=h.ol; have h5:=h.xl
 have ht:∀ t∈ofS s o.lo o.hi,1≤t∧t≤1099511627776:=by
  intro t ht
  obtain ⟨k,hk1,_,_,rfl⟩:=mem_ofS.1 ht
  exact (h.held.lks k hk1).2.1
 have hp:∀ p∈s.preps,p.txn∉ofS s o.lo o.hi:=by
  intro p hp hm
  exact hb (List.any_eq_true.2 ⟨_,hm,List.any_eq_true.2 ⟨p,hp,decide_eq_true G⟩⟩)
 have hh:=h.held.ends ht hp
 have hrng:0≤(goneS (endAll s (ofS s o.lo o.hi)) o.lo o.hi).lo∧(goneS (endAll s (ofS s o.lo o.hi)) o.lo o.hi).lo≤(goneS (endAll s (ofS s o.lo o.hi)) o.lo o.hi).hi∧(goneS (endAll s (ofS s o.lo o.hi)) o.lo o.hi).hi≤64:=by
  have:=h.rng
  show 0≤(if o.lo=s.lo∧o.hi=s.hi then 0 else if o.lo=s.lo then o.hi else s.lo)∧(if o.lo=s.lo∧o.hi=s.hi then 0 else if o.lo=s.lo then o.hi else s.lo)≤(if o.lo=s.lo∧o.hi=s.hi then 0 else if o.lo=s.lo then s.hi else o.lo)∧(if o.lo=s.lo∧o.hi=s.hi then 0 else if o.lo=s.lo then s.hi else o.lo)≤64
  split
  ·omega
  ·split<;>omega
 refine ⟨⟨⟨⟨fun x hx=>h.ok.blocks.1 x (List.mem_filter.1 hx).1,h.ok.blocks.2.filter _⟩,⟨fun x hx=>h.ok.kept.1 x (List.mem_filter.1 hx).1,h.ok.kept.2.filter _⟩,h.ok.locks.without _,endD_rises _ h.ok.dead,h.ok.preps⟩,hh.span ?_,hrng,ho.epoch,?_,?_,h.prs,?_,h.sess,?_,?_,?_,?_,?_⟩,(show I64 0 by decide),hpd⟩
 ·intro k hk1
  obtain ⟨k1,k2⟩:=mem_withoutL.1 hk1
  refine out_span hsp.2.1 hc (h.held.lks k k1).1 (fun hq=>k2 (mem_ofS.2 ⟨k,k1,hq.1,hq.2,rfl⟩))
 ·intro x hx
  obtain ⟨x1,x2⟩:=List.mem_filter.1 hx
  exact out_span hsp.2.1 hc (h.bIn x x1) (fun hq=>by rw [inS_iff.2 hq] at x2; cases x2)
 ·intro x hx
  obtain ⟨x1,x2⟩:=List.mem_filter.1 hx
  exact ⟨out_span hsp.2.1 hc (h.kIn x x1).1 (fun hq=>by rw [show inK o.lo o.hi x=true from inS_iff.2 hq] at x2; cases x2),(h.kIn x x1).2⟩
 ·intro u hu
  rcases List.mem_append.1 hu with hu|hu
  ·exact h.outs u hu
  ·rw [List.mem_singleton] at hu; subst hu
   exact ⟨⟨ho.epoch,⟨hsp.1,by show o.lo≤_; omega⟩,⟨by show 0≤o.hi; omega,by show o.hi≤_; omega⟩⟩,hpd⟩
 ·show (endD s.dead (ofS s o.lo o.hi)).length≤_; omega
 ·show s.preps.length≤_; omega
 ·show (s.kept.filter _).length≤_; omega
 ·show (s.outs++[_]).length≤_; rw [List.length_append,List.length_singleton]; omega
 ·show s.sess.length≤_; omega
theorem mem_joinB :∀ (m:List Blk) (l:List Blk) {x:Blk},x∈joinB l m→x∈l∨∃ y∈m,x.no=y.no
 | [],_,_,h=>.inl h
 | y::m,l,x,h=>by
  rcases mem_joinB m (setB l y.no y.data) h with h|⟨v,hv,e⟩
  ·rcases mem_setB h with h|h
   ·exact .inl h
   ·exact .inr ⟨y,List.mem_cons_self ..,h⟩
  ·exact .inr ⟨v,List.mem_cons_of_mem _ hv,e⟩
theorem part_some {d:List Bt} {lo hi:Int} {l:List Blk} {k:List Kpt} (h:partF d lo hi=some (l,k)):PartOk lo hi l k∧l=(partB d).1∧k=(partK d).1:=by
 unfold partF at h
 split at h
 ·rename_i hh
  simp only [Option.some.injEq,Prod.mk.injEq] at h
  obtain ⟨rfl,rfl⟩:=h
  exact ⟨hh.2,rfl,rfl⟩
 ·cases h
theorem intV_i64 (s:RS):I64 (intV s):=by
 unfold intV
 split
 ·exact dec8_in _
 ·decide
theorem manyS_all {σ α:Type} (f:σ→α × σ) (p:α→Prop) (hf:∀ s,p (f s).1):∀ k s,∀ x∈(manyS f k s).1,p x
 | 0,s,x,hx=>by simp [manyS] at hx
 | k+1,s,x,hx=>by
  rcases List.mem_append.1 (show x∈(manyS f k s).1++[_] from hx) with hx|hx
  ·exact manyS_all f p hf k s x hx
  ·rw [List.mem_singleton] at hx; subst hx; exact hf _
theorem listV_all {α:Type} (one:RS × Bool→α × (RS × Bool)) (least:Nat) (p:α→Prop) (hf:∀ s,p (one s).1) (s:RS × Bool):∀ x∈(listV one least s).1,p x:=by
 unfold listV
 split
 ·exact manyS_all one p hf _ _
 ·simp
theorem listV_24 (s:RS):(listV oneKpt 24 (s,false)).1.length*24≤s.left.length:=by
 have h1:(intS s).left.length≤s.left.length:=takeS_len s 8
 unfold listV
 split
 ·rename_i h
  rw [manyS_length]
  dsimp only at h ⊢
  have h3:(intV s).toNat≤(intS s).left.length / 24:=by have:=h.2; omega
  omega
 ·simp
theorem partK_len (d:List Bt):(partK d).1.length*24≤d.length:=by
 have lB:(partB d).2.1.left.length≤d.length:=listV_len oneBlk_len 16 _
 exact Nat.le_trans (listV_24 _) lB
theorem part_apart {n:Nat} {s:Shd} (h:Good n s) {o:Opn} (hsp:0≤o.lo∧o.lo<o.hi∧o.hi≤64) {l:List Blk} {k:List Kpt} (hp:PartOk o.lo o.hi l k) (hc:¬ (s.lo≠s.hi∧o.hi≠s.lo∧o.lo≠s.hi)):Apart s.kept k:=by
 intro x hx y hy
 have h1:=(h.kIn x hx).1
 have h2:=inS_iff.1 (hp.2.2.2 y hy).2
 have:x.no≠y.no:=by omega
 unfold ltK ltKey
 omega
theorem installF_good {n:Nat} {s:Shd} (h:Good n s) {o:Opn} (ho:OpOk o) (hk:o.kind=6):Good (n+1) (installF s o).1∧SmallR (installF s o).2:=by
 have hsp:=ho.span.2 (.inr (.inr (.inl hk)))
 unfold installF
 split
 ·exact ⟨h.more,smallR_code (by decide)⟩
 split
 ·exact ⟨h.more,smallR_code (by decide)⟩
 split
 ·exact ⟨h.more,smallR_code (by decide)⟩
 rename_i hc
 split
 ·exact ⟨h.more,smallR_code (by decide)⟩
 rename_i l k hp
 obtain ⟨hpo,rfl,rfl⟩:=part_some hp
 have hap:=part_apart h hsp hpo hc
 have hkl:=partK_len o.data
 have hod:=ho.data
 have h1:=h.dl; have h2:=h.pl; have h3:=h.kl; have h4:=h.ol; have h5:=h.xl
 have hrg:=h.rng
 generalize (partB o.data).1=l at *
 have hks:∀ y∈(partK o.data).1,I64 y.snap:=listV_all oneKpt 24 (fun y=>I64 y.snap) (fun s=>intV_i64 _) _
 generalize (partK o.data).1=kk at *
 have hin:∀ m:Int,s.lo≤m∧m<s.hi→(comeS s o l kk).lo≤m∧m<(comeS s o l kk).hi:=by
  intro m hm
  show min (if s.lo=s.hi then o.lo else s.lo) o.lo≤m∧m<max (if s.lo=s.hi then o.hi else s.hi) o.hi
  split<;>omega
 have hin2:∀ m:Int,o.lo≤m∧m<o.hi→(comeS s o l kk).lo≤m∧m<(comeS s o l kk).hi:=by
  intro m hm
  show min (if s.lo=s.hi then o.lo else s.lo) o.lo≤m∧m<max (if s.lo=s.hi then o.hi else s.hi) o.hi
  split<;>omega
 refine ⟨⟨⟨joinB_ok _ h.ok.blocks,⟨fun x hx=>?_,sortK_strict h.ok.kept hpo.2.2.1 hap⟩,h.ok.locks,h.ok.dead,h.ok.preps⟩,h.held.span (fun k hk1=>hin _ (h.held.lks k hk1).1),?_,ho.epoch,?_,?_,h.prs,h.outs,h.sess,?_,?_,?_,?_,?_⟩,smallR_code (by decide)⟩
 ·rcases List.mem_append.1 ((sortK_perm _).mem_iff.1 hx) with hx|hx
  ·exact h.ok.kept.1 x hx
  ·exact hpo.2.2.1.1 x hx
 ·show 0≤min (if s.lo=s.hi then o.lo else s.lo) o.lo∧min (if s.lo=s.hi then o.lo else s.lo) o.lo≤max (if s.lo=s.hi then o.hi else s.hi) o.hi∧max (if s.lo=s.hi then o.hi else s.hi) o.hi≤64
  split<;>omega
 ·intro x hx
  rcases mem_joinB _ _ hx with hx|⟨y,hy,e⟩
  ·exact hin _ (h.bIn x hx)
  ·rw [e]; exact hin2 _ (inS_iff.1 (hpo.2.1 y hy))
 ·intro x hx
  rcases List.mem_append.1 ((sortK_perm _).mem_iff.1 hx) with hx|hx
  ·exact ⟨hin _ (h.kIn x hx).1,(h.kIn x hx).2⟩
  ·exact ⟨hin2 _ (inS_iff.1 (hpo.2.2.2 x hx).2),hks x hx⟩
 ·show s.dead.length≤_; omega
 ·show s.preps.length≤_; omega
 ·show (sortK (s.kept++kk)).length≤_; rw [(sortK_perm _).length_eq,List.length_append]; omega
 ·show s.outs.length≤_; omega
 ·show s.sess.length≤_; omega
theorem dropF_good {n:Nat} {s:Shd} (h:Good n s) (o:Opn):Good (n+1) (dropF s o).1∧SmallR (dropF s o).2:=by
 have g:=h.more
 have hl:=filter_len (fun u=>!isOut o.epoch u) s.outs
 have:=h.ol
 exact ⟨⟨⟨g.ok.blocks,g.ok.kept,g.ok.locks,g.ok.dead,g.ok.preps⟩,g.held,g.rng,g.ep,g.bIn,g.kIn,g.prs,fun u hu=>g.outs u (List.mem_filter.1 hu).1,g.sess,g.dl,g.pl,g.kl,by show (s.outs.filter _).length≤_; omega,g.xl⟩,smallR_code (by decide)⟩
theorem stepF_good {n:Nat} {s:Shd} (h:Good n s) (hn:n≤190) {o:Opn} (ho:OpOk o):Good (n+1) (stepF s o).1∧SmallR (stepF s o).2:=by
 unfold stepF
 split
 ·exact readF_good h ho ‹_›
 split
 ·exact prepareF_good h ho ‹_›
 split
 ·exact decideF_good h ho ‹_›
 split
 ·exact freezeF_good h hn ho ‹_›
 split
 ·exact installF_good h ho ‹_›
 ·exact dropF_good h o
end Sl
end Go.Proofs.YtpkealohodeifaaGreat
namespace Go.Proofs.YtpkealohodeifaaGreat
open Go Go.RowKit
namespace Sl
set_option maxRecDepth 4000
theorem tkAll_same :∀ (ks:List Lk) (s:Shd),(tkAll s ks).1=ldS s (tkAll s ks).1.locks (tkAll s ks).1.dead
 | [],s=>rfl
 | k::ks,s=>by
  have es:tkAll s (k::ks)=ks.foldl tkStep (tkS s k):=by
   show ks.foldl tkStep (tkStep (s,0) k)=_
   rw [show tkStep (s,0) k=tkS s k by unfold tkStep; rw [if_neg (by simp)]]
  rw [es]
  by_cases hz:(tkS s k).2=0
  ·have e2:ks.foldl tkStep (tkS s k)=tkAll (tkS s k).1 ks:=by unfold tkAll; rw [← hz]
   rw [e2]; exact tkAll_same ks (tkS s k).1
  ·rw [tkStep_bad hz]; rfl
theorem stepF_sess (s:Shd) (o:Opn):(stepF s o).1.sess=s.sess:=by
 unfold stepF
 split
 ·unfold readF
  split
  ·rfl
  split
  ·rfl
  split
  ·rfl
  ·rfl
 split
 ·unfold prepareF
  split
  ·rfl
  split
  ·rfl
  split
  ·rfl
  split
  ·rfl
  split
  ·show (tkAll (forgetS s o.txn) (prepLks s o)).1.sess=_; rw [tkAll_same]; rfl
  ·show (tkAll (forgetS s o.txn) (prepLks s o)).1.sess=_; rw [tkAll_same]; rfl
 split
 ·unfold decideF
  have h:(decide1 s o).sess=s.sess:=by
   unfold decide1
   split
   ·show (if _ then _ else _:Shd).sess=_
    split<;>rfl
   ·rfl
  show (if _ then endS (decide1 s o) o.txn else decide1 s o).sess=_
  split
  ·exact h
  ·exact h
 split
 ·unfold freezeF
  split
  ·rfl
  split
  ·rfl
  split
  ·rfl
  split
  ·rfl
  ·rfl
 split
 ·unfold installF
  split
  ·rfl
  split
  ·rfl
  split
  ·rfl
  split
  ·rfl
  ·rfl
 ·rfl
theorem mem_noteF {l:List Ses} {c q:Int} {r:Res} {x:Ses} (h:x∈noteF l c q r):x∈l∨x=⟨c,q,r⟩:=by
 unfold noteF at h
 split at h
 ·exact .inl h
 split at h
 ·rcases List.mem_or_eq_of_mem_set h with h|rfl
  ·exact .inl h
  ·exact .inr G
 split at h
 ·rcases List.mem_append.1 h with h|h
  ·exact .inl h
  ·exact .inr (List.mem_singleton.1 h)
 ·rcases List.mem_append.1 h with h|h
  ·exact .inl (List.mem_of_mem_take h)
  ·rcases List.mem_cons.1 h with rfl|h
   ·exact .inr G
   ·exact .inl (List.mem_of_mem_drop h)
theorem noteF_len (l:List Ses) (c q:Int) (r:Res):(noteF l c q r).length≤l.length+1:=by
 unfold noteF
 split
 ·omega
 split
 ·rw [List.length_set]; omega
 split
 ·rw [List.length_append,List.length_singleton]; omega
 ·rw [List.length_append,List.length_cons,List.length_take,List.length_drop]; omega
theorem checkF_code (o:Opn):I64 (checkF o):=by
 unfold checkF
 split
 ·decide
 split
 ·decide
 split
 ·decide
 split
 ·decide
 split
 ·decide
 split
 ·decide
 split
 ·decide
 ·decide
theorem askF_small {l:List Ses} (h:∀ x∈l,SmallR x.res) (c q:Int):SmallR (askF l c q).1:=by
 unfold askF
 split
 ·exact smallR_code (by decide)
 split
 ·exact smallR_code (by decide)
 ·rename_i s hs
  split
  ·exact smallR_code (by decide)
  split
  ·exact smallR_code (by decide)
  ·exact h s (List.mem_of_find?_eq_some hs)
theorem note_good {n:Nat} {s x:Shd} (h:Good n s) {o:Opn} (ho:OpOk o) (g:Good (n+1) x) (hx:x.sess=s.sess) {r:Res} (hr:SmallR r):Good (n+1) (noteS x o r):=by
 refine ⟨⟨g.ok.blocks,g.ok.kept,g.ok.locks,g.ok.dead,g.ok.preps⟩,g.held,g.rng,g.ep,g.bIn,g.kIn,g.prs,g.outs,fun y hy=>?_,g.dl,g.pl,g.kl,g.ol,?_⟩
 ·rcases mem_noteF hy with hy|rfl
  ·exact g.sess y hy
  ·exact ⟨⟨⟨ho.client.1,by show o.client≤_; have:=ho.client.2; omega⟩,ho.seq⟩,hr⟩
 ·have h1:=noteF_len x.sess o.client o.seq r
  rw [hx] at h1
  have:=h.xl
  show (noteF x.sess o.client o.seq r).length≤_
  rw [hx]; omega
theorem applyF_good {n:Nat} {s:Shd} (h:Good n s) (hn:n≤190) (o:Opn):Good (n+1) (applyF s o).1∧SmallR (applyF s o).2:=by
 unfold applyF
 split
 ·exact ⟨h.more,smallR_code (checkF_code o)⟩
 rename_i hc
 have ho:=check_ok (Classical.byContradiction hc)
 split
 ·exact ⟨h.more,smallR_code (by decide)⟩
 split
 ·exact ⟨h.more,askF_small (fun x hx=>(h.sess x hx).2) _ _⟩
 split
 ·exact ⟨h.more,smallR_code (by decide)⟩
 ·obtain ⟨g,hr⟩:=stepF_good h hn ho
  exact ⟨note_good h ho g (stepF_sess s o) hr,hr⟩
theorem Good.shdIn {n:Nat} {s:Shd} (h:Good n s) (hn:n≤191):ShdIn s:=by
 have h0:=h.rng
 have b1:=h.ok.blocks.len
 have l1:=h.ok.locks.few
 have d1:=h.dl; have d2:=h.pl; have d3:=h.kl; have d4:=h.ol; have d5:=h.xl
 have i1:∀ n:Int,0≤n∧n≤64→I64 n:=fun n hn=>by unfold I64; omega
 have i2:∀ n:Int,1≤n∧n≤1099511627776→I64 n:=fun n hn=>by unfold I64; omega
 refine ⟨⟨i1 _ (by omega),i1 _ (by omega),h.ep.i64⟩,fun x hx=>?_,fun x hx=>?_,fun x hx=>?_,fun x hx=>?_,fun x hx=>i2 _ (h.held.dn x hx),fun x hx=>?_,fun x hx=>?_,by omega⟩
 ·have:=h.bIn x hx
  have:=h.ok.blocks.four x hx
  exact ⟨i1 _ (by omega),by unfold SmallB; omega⟩
 ·have:=h.kIn x hx
  have:=h.ok.kept.1 x hx
  exact ⟨(h.kIn x hx).2,i1 _ (by omega),by unfold SmallB; omega⟩
 ·obtain ⟨q1,q2,q3⟩:=h.held.lks x hx
  exact ⟨i1 _ (by omega),i2 _ q2,by unfold I64; omega⟩
 ·have p:=h.prs x hx
  refine ⟨⟨i2 _ p.txn,p.age.i64,p.snap.i64,i1 _ (by have:=p.span; omega),i1 _ (by have:=p.span; omega)⟩,fun n hn=>i1 _ (by have:=p.parts.2 n hn; omega),by have:=p.parts.1; omega,fun w hw=>⟨i1 _ (by have:=(p.writes.2 w hw).1; omega),by have:=(p.writes.2 w hw).2; unfold SmallB; omega⟩,by have:=p.writes.1; omega⟩
 ·obtain ⟨⟨q1,q2,q3⟩,q4⟩:=h.outs x hx
  exact ⟨q1.i64,q2.i64,q3.i64,by unfold SmallB; omega⟩
 ·obtain ⟨⟨q1,q2⟩,q3,q4⟩:=h.sess x hx
  exact ⟨q1.i64,q2.i64,q3,by unfold SmallB; omega⟩
theorem flat_bound {α:Type} (f:α→List Bt) (c:Nat):∀ l:List α,(∀ x∈l,(f x).length≤c)→((l.map f).flatten).length≤c*l.length
 | [],_=>by simp
 | x::l,h=>by
  have h1:=h x (List.mem_cons_self ..)
  have h2:=flat_bound f c l (fun y hy=>h y (List.mem_cons_of_mem _ hy))
  rw [List.map_cons,List.flatten_cons,List.length_append,List.length_cons,Nat.mul_succ]; omega
theorem encL'_bound {α:Type} (f:α→List Bt) (c:Nat) (l:List α) (h:∀ x∈l,(f x).length≤c):(encL' f l).length≤8+c*l.length:=by
 have:=flat_bound f c l h
 rw [encL'_length]; omega
theorem Good.enc_len {n:Nat} {s:Shd} (h:Good n s) (hn:n≤191):(encShd s).length≤1000000000000:=by
 have b1:=h.ok.blocks.len
 have l1:=h.ok.locks.few
 have d1:=h.dl; have d2:=h.pl; have d3:=h.kl; have d4:=h.ol; have d5:=h.xl
 have e1:=encL'_bound encBlk 20 s.blocks (fun x hx=>by have:=h.ok.blocks.four x hx; unfold encBlk; rw [List.length_append,be8_length,blob_length]; omega)
 have e2:=encL'_bound encKpt 28 s.kept (fun x hx=>by have:=h.ok.kept.1 x hx; unfold encKpt; rw [List.length_append,List.length_append,be8_length,be8_length,blob_length]; omega)
 have e3:=encL'_bound encLk 32 s.locks (fun x hx=>by unfold encLk; simp only [List.length_append,be8_length]; omega)
 have e4:=encL'_bound encPrp 1000 s.preps (fun x hx=>by
  have p:=h.prs x hx
  have p1:=p.parts.1
  have p2:=p.writes.1
  have q:=encL'_bound encWr 20 x.writes (fun w hw=>by have:=(p.writes.2 w hw).2; unfold encWr; rw [List.length_append,be8_length,blob_length]; omega)
  unfold encPrp
  simp only [List.length_append,be8_length,encInts_length]
  omega)
 have e5:=encL'_bound encOut 100000100 s.outs (fun x hx=>by have:=(h.outs x hx).2; unfold encOut; simp only [List.length_append,be8_length,blob_length]; omega)
 have e6:=encL'_bound encSes 100000100 s.sess (fun x hx=>by have:=(h.sess x hx).2.2; unfold encSes; simp only [List.length_append,be8_length,blob_length]; omega)
 unfold encShd
 simp only [List.length_append,be8_length,encInts_length]
 omega
end Sl
end Go.Proofs.YtpkealohodeifaaGreat
namespace Go.Proofs.YtpkealohodeifaaGreat
open Go Go.RowKit
namespace Sl
set_option maxHeartbeats 16000000
set_option maxRecDepth 4000
set_option synthInstance.maxHeartbeats 400000
set_option synthInstance.maxSize 100000
attribute [local irreducible] Hold HoldL HoldW
def SmallO (o:Opn):Prop:=o.parts.length≤1000000∧o.reads.length≤1000000∧o.writes.length≤1000000∧o.data.length≤1000000∧∀ w∈o.writes,w.data.length≤1000000
theorem copyOp_spec (w0:World) (X:Hp) (o:Opn) (e:List Value) (ho:Rep.rd w0 X o e) (hl:SmallO o) :
  Spec Tryz.prog w0 103 [.agg e.toArray] X (fun r h'=>∃ e' D,r=.agg e'.toArray∧Rep.rd w0 D o e'∧X+D=h'):=by
 obtain ⟨x1,y1,x2,y2,x3,y3,x4,y4,rfl,r1,r2,r3,r4⟩:=ho
 obtain ⟨l1,l2,l3,l4,l5⟩:=hl
 refine zN Tryz.func103 G Tryz.ntmps103 Tryz.results103 G fun fr=>?_
 repeat (first|refine zF ?_|refine zB ?_|refine zE ?_|refine L_box G (c:=[_,_,_,_,_,_,_,_,_,_,_,_,_,_,_,_,_]) G G G (fun _=>?_)|refine L_alloc (c:=[_,_,_,_,_,_,_,_,_,_,_,_,_,_,_,_,_]) G G G (fun _=>?_))
 rename_i b1 b2
 refine yC [2,5,8,10,12,14] [0,1,3,4,6,7,2,9,5,8,10,11,12,13,14] (by kernel_rfl) G (by kernel_rfl) (by kernel_rfl) ?_
 repeat (first|refine yE G G G G (yA G G G) ?_|refine W_load G G G G (yF G) (zG G (zS G)) ?_)
 refine W_call G G G G (zQ G G G) (cloneI_spec w0 X _ o.parts r1 (by omega)) (Kept.all _) ?_
 rintro _ _ ⟨h1,q1,rfl⟩
 obtain ⟨a5,c5,rfl⟩:=q1.shape
 refine ⟨(by repeat (first|exact trivial|exact zG G (zS G)|exact zL G G G|exact zX G (by assumption) G|exact zH G (by assumption) G|exact zH G (by assumption) (by assumption)|refine ⟨?_,?_⟩)),?_⟩
 repeat (refine yE G G G G (yA G G G) ?_)
 refine W_call G G G G (zQ G G G) (cloneI_spec w0 X _ o.reads r2 (by omega)) (Kept.all _) ?_
 rintro _ _ ⟨h2,q2,rfl⟩
 obtain ⟨a6,c6,rfl⟩:=q2.shape
 refine ⟨(by repeat (first|exact trivial|exact zG G (zS G)|exact zL G G G|exact zX G (by assumption) G|exact zH G (by assumption) G|exact zH G (by assumption) (by assumption)|refine ⟨?_,?_⟩)),?_⟩
 skip
 refine W_call G G G G (zQ G G G) (cloneB_spec w0 X _ o.data r4 (by omega)) (Kept.all _) ?_
 rintro _ _ ⟨h3,q3,rfl⟩
 obtain ⟨a8,c8,rfl⟩:=q3.shape
 refine ⟨(by repeat (first|exact trivial|exact zG G (zS G)|exact zL G G G|exact zX G (by assumption) G|exact zH G (by assumption) G|exact zH G (by assumption) (by assumption)|refine ⟨?_,?_⟩)),?_⟩
 skip
 refine W_eff (W':=?wk1) G G G G (ev_store G G G G G (c':=[_,_,_,_,_,_,_,_,_,_,_,_,_,_,_,_,_]) G) ?wkk1 ?wrest1
 case wkk1=>repeat (first|exact Kept.nil|refine Kept.drop (by kernel_rfl) ?_|refine Kept.keep ?_)
 rintro _ _ rfl
 refine ⟨(by repeat (first|exact trivial|exact zG G (zS G)|exact zL G G G|exact zX G (by assumption) G|exact zH G (by assumption) G|exact zH G (by assumption) (by assumption)|refine ⟨?_,?_⟩)),?_⟩
 repeat (refine yE G G G G (yA G G G) ?_)
 refine W_eff (W':=?wk2) G G G G (ev_store G G G G G (c':=[_,_,_,_,_,_,_,_,_,_,_,_,_,_,_,_,_]) G) ?wkk2 ?wrest2
 case wkk2=>repeat (first|exact Kept.nil|refine Kept.drop (by kernel_rfl) ?_|refine Kept.keep ?_)
 rintro _ _ rfl
 refine ⟨(by repeat (first|exact trivial|exact zG G (zS G)|exact zL G G G|exact zX G (by assumption) G|exact zH G (by assumption) G|exact zH G (by assumption) (by assumption)|refine ⟨?_,?_⟩)),?_⟩
 repeat (refine yE G G G G (yA G G G) ?_)
 refine W_eff (W':=?wk3) G G G G (ev_store G G G G G (c':=[_,_,_,_,_,_,_,_,_,_,_,_,_,_,_,_,_]) G) ?wkk3 ?wrest3
 case wkk3=>repeat (first|exact Kept.nil|refine Kept.drop (by kernel_rfl) ?_|refine Kept.keep ?_)
 rintro _ _ rfl
 refine ⟨(by repeat (first|exact trivial|exact zG G (zS G)|exact zL G G G|exact zX G (by assumption) G|exact zH G (by assumption) G|exact zH G (by assumption) (by assumption)|refine ⟨?_,?_⟩)),?_⟩
 repeat (refine yJ ?_)
 repeat (first|refine zF ?_|refine zR ?_|refine zB ?_|refine zE ?_|refine zK G G G ?_|refine zZ G G G G G ?_|refine L_ld G G G G G ?_|refine L_len G G G ?_)
 refine hold_count o.writes.length (fun k g L=>∃ (vo:Value) (E h R:Hp),g=[(1,.pointer (some ⟨b1,0,none⟩)),(2,.pointer (some ⟨b2,0,none⟩)),(3,vo),(19,.slice x3 o.writes.length y3),(20,.int .i64 o.writes.length),(21,.int .i64 k)]∧OwL w0 E (o.writes.take k) vo h ∧
   L=X+h1+h2+h3+E+h+opC b1 o (.slice a5 o.parts.length c5) (.slice a6 o.reads.length c6) (.slice x3 o.writes.length y3) (.slice a8 o.data.length c8)+pt b2 (.cells [.int .i64 0,.int .i64 0,.int .i64 0,.int .i64 0,.int .i64 0,.int .i64 0,.int .i64 0,.int .i64 0,.int .i64 0,.int .i64 0,.int .i64 0,.int .i64 0,.int .i64 0,.slice none 0 0,.slice none 0 0,.slice none 0 0,.slice none 0 0].toArray 49 (0,0))+fr+R) _
  ⟨_,0,0,_,rfl,OwL.nil _ _,by simp only [yB]; exact yK.out⟩ (by repeat (first|exact zT _|refine zO G ?_)) ?_
 rintro k g L hk ⟨vo,E,h,R,rfl,hov,rfl⟩
 repeat (first|refine zF ?_|refine zB ?_)
 refine yG G G (pv_lss G G) (fun n1=>?_) (fun n1=>?_)
 ·have hx:k<o.writes.length:=by omega
  obtain ⟨bw,ow,rfl,ew,⟨a3,c3,rfl,hdat⟩,hat⟩:=r3.at hx
  repeat (first|refine zF ?_|refine zR ?_|refine zB ?_|refine zE ?_|refine zP ?_|refine zJ G ?_|refine L_idx G G (by omega) G G ?_|refine L_atA G (by assumption) G G G G ?_|refine L_stA G (vs:=[_,_]) G G G G (c':=[_,_]) G G ?_|refine L_alloc (c:=[_,_]) G G G (fun _=>?_))
  refine yC [5,7,8] [0,1,2,3,4,5,6,7,8,9] (by kernel_rfl) G (by kernel_rfl) (by kernel_rfl) ?_
  repeat (first|refine yI G G G G G ?_|refine yE G G G G (yA G G G) ?_|refine W_load G G G G (yF G) (zG G (zS G)) ?_)
  refine W_call G G G G (zQ G G G) (cloneB_spec w0 X _ _ hdat (by have:=l5 _ (List.getElem_mem hx); omega)) (Kept.all _) ?_
  rintro vc _ ⟨hc,hcl,rfl⟩
  obtain ⟨a4,c4,rfl⟩:=hcl.shape
  refine ⟨(by repeat (first|exact trivial|exact zG G (zS G)|exact zL G G G|exact zX G (by assumption) G|exact zH G (by assumption) G|exact zH G (by assumption) (by assumption)|refine ⟨?_,?_⟩)),?_⟩
  repeat (refine yE G G G G (pv_build (vs:=[_,_]) (cells:=[_,_]) G G) ?_)
  refine W_eff G G G G (ev_buildSlice (vs:=[_]) (cells:=[_,_]) G G G G) (Kept.all _) ?_
  rintro _ _ ⟨b5,rfl,rfl⟩
  refine ⟨(by repeat (first|exact trivial|exact zG G (zS G)|exact zL G G G|exact zX G (by assumption) G|exact zH G (by assumption) G|exact zH G (by assumption) (by assumption)|refine ⟨?_,?_⟩)),?_⟩
  have hnew:Rep.rd w0 (E+hc) o.writes[k] [.int .i64 o.writes[k].block,.slice a4 o.writes[k].data.length c4]:=⟨a4,c4,rfl,hcl.plainB.rd (X:=0) (R:=E)⟩
  refine W_eff G G G G (ev_appendL (X:=E+hc) (ns:=[o.writes[k]]) (h:=h) G G (hov.mono G) (rd_one G) (All2.one hnew) G G G G G (by simp only [List.length_take,List.length_singleton]; omega)) (Kept.all _) ?_
  rintro vo' _ ⟨h',ho',rfl⟩
  refine ⟨(by repeat (first|exact trivial|exact zG G (zS G)|exact zL G G G|exact zX G (by assumption) G|exact zH G (by assumption) G|exact zH G (by assumption) (by assumption)|refine ⟨?_,?_⟩)),?_⟩
  repeat (first|refine yJ ?_|refine yI G G G G G ?_)
  repeat (first|refine zB ?_|refine zE ?_|refine zK G G G ?_|refine L_add G G (by omega) (by omega) G G ?_)
  rw [← List.take_succ_eq_append_getElem hx] at ho'
  exact ⟨hx,_,(by repeat (first|exact zT _|refine zO G ?_)),vo',E+hc,h',_,rfl,ho',yK.out⟩
 ·rw [List.take_of_length_le (by omega)] at hov
  obtain ⟨a9,c9,rfl⟩:=hov.shape
  repeat (first|refine zF ?_|refine yD ?_|refine zB ?_|refine zE ?_|refine zK G G G ?_|refine zZ G G G G G ?_|refine zM ?_|refine zI G ?_|refine L_st G G G (c':=[_,_,_,_,_,_,_,_,_,_,_,_,_,_,_,_,_]) G G G G ?_|refine L_ldA G (vs:=[_,_,_,_,_,_,_,_,_,_,_,_,_,_,_,_,_]) G G G G G ?_|refine L_stA G (vs:=[_,_,_,_,_,_,_,_,_,_,_,_,_,_,_,_,_]) G G G G (c':=[_,_,_,_,_,_,_,_,_,_,_,_,_,_,_,_,_]) G G ?_)
  exact ⟨[_],X+(h1+h2+h3+E+h),_,⟨⟨_,rfl,zL G G G⟩,trivial⟩,⟨cellsO o (.slice a5 o.parts.length c5) (.slice a6 o.reads.length c6) (.slice a9 o.writes.length c9) (.slice a8 o.data.length c8),h1+h2+h3+E+h,rfl,
   ⟨a5,c5,a6,c6,a9,c9,a8,c8,rfl,(q1.plainI (Y:=0)).rd (R:=h2+h3+E+h) (hf:=⟨by rw [hzero_add]; ac_rfl⟩),(q2.plainI (Y:=0)).rd (R:=h1+h3+E+h) (hf:=⟨by rw [hzero_add]; ac_rfl⟩),hov.rd (R:=h1+h2+h3) (hf:=⟨by ac_rfl⟩),(q3.plainB (Y:=0)).rd (R:=h1+h2+E+h) (hf:=⟨by rw [hzero_add]; ac_rfl⟩)⟩,rfl⟩,yK.out⟩
theorem copyOf_spec (w0:World) (X:Hp) (s:Shd) (e:List Value) (he:RdShd w0 X s e) (hin:ShdIn s) (hl:(encShd s).length≤1000000000000) :
  Spec Tryz.prog w0 99 [.agg e.toArray] X (fun r h'=>∃ b D h,r=.pointer (some ⟨b,0,none⟩)∧ShAt w0 D b s h∧X+(D+h)=h'):=by
 have hput:=put22_spec w0 X s e he hl
 obtain ⟨p1,q1,p2,q2,p3,q3,p4,q4,p5,q5,p6,q6,p7,q7,rfl,_,_,_,_,_,_,_⟩:=he
 refine zN Tryz.func99 G Tryz.ntmps99 Tryz.results99 G fun fr=>?_
 repeat (first|refine zF ?_|refine zB ?_|refine zE ?_|refine zK G G G ?_|refine L_ldA G (vs:=[_,_,_,_,_,_,_,_,_,_]) G G G G G ?_|refine L_box G (c:=[_,_,_,_,_,_,_,_,_,_]) G G G (fun _=>?_))
 refine zY G G (zQ G G G) hput ?_
 rintro vb _ ⟨hb,hob,rfl⟩
 have hget:=get22_spec w0 hb vb (encShd s) hob.rdh hl
 rw [getF_enc s hin] at hget
 obtain ⟨ab,cb,rfl⟩:=hob.shape
 skip
 refine zY G G (zQ G G G) hget ?_
 rintro _ _ ⟨e2,D,h,rfl,⟨a1,c1,a2,c2,a3,c3,a4,c4,a5,c5,a6,c6,a7,c7,h1,h2,h3,h4,h5,h6,h7,rfl,o1,o2,o3,o4,o5,o6,o7,rfl⟩,rfl⟩
 repeat (first|refine zF ?_|refine zB ?_|refine zE ?_|refine zK G G G ?_|refine zM ?_|refine L_ldA G (vs:=[_,_,_,_,_,_,_,_,_,_]) G G G G G ?_|refine L_build (vs:=[_]) (cells:=[_,_,_,_,_,_,_,_,_,_]) G G G G ?_|refine L_stA G (vs:=[_,_,_,_,_,_,_,_,_,_]) G G G G (c':=[_,_,_,_,_,_,_,_,_,_]) G G ?_|refine L_box G (c:=[_,_,_,_,_,_,_,_,_,_]) G G G (fun _=>?_)|refine L_alloc (c:=[_,_,_,_,_,_,_,_,_,_]) G G G (fun _=>?_))
 rename_i bn
 exact ⟨[_],X+(D+(stC bn (cellsS s (.slice a1 s.blocks.length c1) (.slice a2 s.kept.length c2) (.slice a3 s.locks.length c3) (.slice a4 s.preps.length c4) (.slice a5 s.dead.length c5) (.slice a6 s.outs.length c6) (.slice a7 s.sess.length c7))+h1+h2+h3+h4+h5+h6+h7)),_,⟨rfl,trivial⟩,
  ⟨bn,D,_,rfl,⟨a1,c1,a2,c2,a3,c3,a4,c4,a5,c5,a6,c6,a7,c7,h1,h2,h3,h4,h5,h6,h7,o1,o2,o3.plainL,o4,o5.plainI,o6,o7,rfl⟩,rfl⟩,yK.out⟩
end Sl
end Go.Proofs.YtpkealohodeifaaGreat
