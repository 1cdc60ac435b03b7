/-
  What shardBytes.proved hangs on, part 7 of 8: ShRd, ShRs, ShRp, ShRt, ShRu.
-/
import Derived.Test.YtpkealohodeifaaGreatBy6
import Derived.Test.YtpkealohodeifaaGreatBy4
set_option linter.unusedVariables false
set_option linter.unusedSimpArgs false
namespace Go.Proofs.YtpkealohodeifaaGreat
open Go Go.RowKit
namespace Sl
set_option maxHeartbeats 16000000
set_option maxRecDepth 4000
set_option synthInstance.maxHeartbeats 400000
set_option synthInstance.maxSize 100000
attribute [local irreducible] Hold HoldL HoldW
theorem refW_ints_spec (w0:World) (X:Hp) (v u:Value) (b:List Bt) (l:List Int) (hv:RdL w0 X v b) (hu:RdL w0 X u l) (hl:b.length+8*l.length≤1000000000000) (hpos:0<l.length) :
  Spec Tryz.prog w0 93 [v,u] X (fun r h'=>∃ h,OwL w0 0 (b++(l.map be8).flatten) r h∧X+h=h'):=by
 obtain ⟨a2,c2,rfl⟩:=hu.shape
 have hlen:∀ k,((l.take k).map be8).flatten.length≤8*l.length:=by
  intro k
  have h1:=flat_le be8 l k
  have h2:=encInts_length l
  rw [encInts,List.length_append,be8_length] at h2
  omega
 refine zN Tryz.func93 G Tryz.ntmps93 Tryz.results93 G fun fr=>?_
 repeat (first|refine zF ?_|refine zR ?_|refine zB ?_|refine zE ?_|refine zK G G G ?_)
 refine hold_count l.length (fun k g L=>∃ (vo:Value) (h R:Hp),g=[(0,vo),(1,.slice a2 l.length c2),(5,.int .i64 k)]∧((k=0∧vo=v∧h=0)∨(0<k∧OwL w0 0 (b++((l.take k).map be8).flatten) vo h))∧L=X+h+fr+R) _
  ⟨v,0,0,rfl,.inl ⟨rfl,rfl,rfl⟩,by simp only [yB]⟩ (by repeat (first|exact zT _|refine zO G ?_)) ?_
 rintro k g L hk ⟨vo,h,R,rfl,ho,rfl⟩
 repeat (first|refine zF ?_|refine zB ?_|refine zK G G G ?_|refine L_len G G G ?_)
 refine yG G G (pv_lss G G) (fun h3=>?_) (fun h3=>?_)
 ·have hx:k<l.length:=by omega
  obtain ⟨b2,o2,rfl,e,rfl,hat⟩:=hu.at hx
  have hrd:RdL w0 (X+h) vo (b++((l.take k).map be8).flatten):=by
   rcases ho with ⟨rfl,rfl,rfl⟩|⟨_,ho⟩
   ·simpa [yB] using hv
   ·exact ho.rd (R:=X)
  repeat (first|refine zF ?_|refine zR ?_|refine zB ?_|refine zE ?_|refine zK G G G ?_|refine zP ?_|refine zJ G ?_|refine L_idx G G (by omega) G G ?_|refine L_at G (by assumption) G G G G ?_)
  refine zY G G (zQ G G G) (refPutInt_spec w0 (X+h) vo _ l[k] hrd (by rw [List.length_append]; have:=hlen k; omega)) ?_
  rintro v5 _ ⟨h5,ho5,rfl⟩
  repeat (first|refine zB ?_|refine zE ?_|refine zK G G G ?_|refine L_add G G (by omega) (by omega) G G ?_)
  refine ⟨hx,_,(by repeat (first|exact zT _|refine zO G ?_)),v5,h5,_,rfl,.inr ⟨by omega,?_⟩,yK.out⟩
  rw [flat_take be8 hx,← List.append_assoc]
  exact ho5
 ·rw [List.take_of_length_le (by omega)] at ho
  repeat (first|refine zF ?_|refine yD ?_|refine zB ?_|refine zE ?_|refine zK G G G ?_|refine zM ?_|refine zI G ?_)
  rcases ho with ⟨rfl,_,_⟩|⟨_,ho⟩
  ·exact absurd hpos (by omega)
  ·exact ⟨[_],X+h,_,⟨rfl,trivial⟩,⟨h,ho,rfl⟩,yK.out⟩
theorem encBlk_len (x:Blk):(encBlk x).length=16+x.data.length:=by unfold encBlk; rw [List.length_append,be8_length,blob_length]; omega
theorem encKpt_len (x:Kpt):(encKpt x).length=24+x.data.length:=by unfold encKpt; rw [List.length_append,List.length_append,be8_length,be8_length,blob_length]; omega
theorem encWr_len (x:Wr):(encWr x).length=16+x.data.length:=by unfold encWr; rw [List.length_append,be8_length,blob_length]; omega
theorem encOut_len (x:Outp):(encOut x).length=32+x.data.length:=by unfold encOut; rw [List.length_append,List.length_append,List.length_append,be8_length,be8_length,be8_length,blob_length]; omega
theorem encSes_len (x:Ses):(encSes x).length=32+x.res.data.length:=by unfold encSes; rw [List.length_append,List.length_append,List.length_append,be8_length,be8_length,be8_length,blob_length]; omega
theorem encLk_len (x:Lk):(encLk x).length=32:=by unfold encLk; simp only [List.length_append,be8_length]
theorem encPrp_len (x:Prp):(encPrp x).length=56+8*x.parts.length+(x.writes.map encWr).flatten.length:=by unfold encPrp; simp only [List.length_append,be8_length,encInts_length,encL'_length]; omega
theorem refPutBlks_spec (w0:World) (X:Hp) (v u:Value) (b:List Bt) (l:List Blk) (hv:RdL w0 X v b) (hu:RdL w0 X u l) (hl:(b++encL' encBlk l).length≤100000000000) :
  Spec Tryz.prog w0 95 [v,u] X (fun r h'=>∃ h,OwL w0 0 (b++encL' encBlk l) r h∧X+h=h'):=by
 rw [List.length_append,encL'_length] at hl
 have hln:=len_flat encBlk (fun x=>by rw [encBlk_len]; omega) l
 have hint:=refPutInt_spec w0 X v b l.length hv (by omega)
 have hb8:=be8_length (l.length:Int)
 obtain ⟨a,c,rfl⟩:=hv.shape
 obtain ⟨a1,c1,rfl⟩:=hu.shape
 refine zN Tryz.func95 G Tryz.ntmps95 Tryz.results95 G fun fr=>?_
 repeat (first|refine zF ?_|refine zB ?_|refine zE ?_|refine zK G G G ?_|refine L_len G G G ?_)
 refine zY G G (zQ G G G) hint ?_
 rintro v1 _ ⟨h1,ho1,rfl⟩
 repeat (first|refine zF ?_|refine zR ?_|refine zB ?_|refine zE ?_|refine zK G G G ?_)
 refine hold_count l.length (fun k g L=>∃ (vo:Value) (h R:Hp),g=[(0,vo),(1,.slice a1 l.length c1),(5,.int .i64 k)]∧OwL w0 0 (b++be8 l.length++((l.take k).map encBlk).flatten) vo h∧L=X+h+fr+R) _
  ⟨v1,h1,_,rfl,by simp only [List.take_zero,List.map_nil,List.flatten_nil,List.append_nil]; exact ho1,yK.out⟩ (by repeat (first|exact zT _|refine zO G ?_)) ?_
 rintro k g L hk ⟨vo,h,R,rfl,ho,rfl⟩
 repeat (first|refine zF ?_|refine zB ?_|refine zK G G G ?_|refine L_len G G G ?_)
 refine yG G G (pv_lss G G) (fun n1=>?_) (fun n1=>?_)
 ·have hx:k<l.length:=by omega
  have hst:=flat_step encBlk hx
  have hft:=flat_take encBlk hx
  have hel:=encBlk_len l[k]
  obtain ⟨b2,o2,rfl,e,⟨a3,c3,rfl,hdat⟩,hat⟩:=hu.at hx
  generalize l[k]=x at *
  have hpl:(b++be8 l.length++((l.take k).map encBlk).flatten).length=b.length+8+((l.take k).map encBlk).flatten.length:=by rw [List.length_append,List.length_append,hb8]
  generalize ((l.take k).map encBlk).flatten=F at *
  repeat (first|refine zF ?_|refine zR ?_|refine zE ?_|refine zP ?_|refine zJ G ?_)
  refine yC [6,12] [0,1,2,3,4,5,7,8,9,10,11,6,12,13] (by kernel_rfl) G (by kernel_rfl) (by kernel_rfl) ?_
  repeat (first|refine yI G G G G G ?_|refine yE G G G G (yA G G G) ?_|refine W_idx G G G (by omega) G G G ?_|refine W_atf G G (by assumption) G G G G G ?_)
  refine W_call G G G G (zQ G G G) (refPutInt_spec w0 h _ _ x.no ho.rdh (by first|omega|(simp only [List.length_append,be8_length] at *; omega))) (Kept.all _) ?_
  rintro y0 _ ⟨j0,q0,rfl⟩
  refine ⟨(by repeat (first|exact trivial|exact zG G (zS G)|exact zL G G G|exact zX G (by assumption) G|exact zH G (by assumption) G|exact zH G (by assumption) (by assumption)|refine ⟨?_,?_⟩)),?_⟩
  skip
  refine W_call G G G G (zQ G G G) (refPutBlob_spec w0 (X+j0) _ _ _ _ (q0.rd (R:=X)) (hdat.mono G) (by first|omega|(simp only [List.length_append,be8_length] at *; omega)) (by omega)) (Kept.all _) ?_
  rintro v9 _ ⟨h9,ho9,rfl⟩
  refine ⟨(by repeat (first|exact trivial|exact zG G (zS G)|exact zL G G G|exact zX G (by assumption) G|exact zH G (by assumption) G|exact zH G (by assumption) (by assumption)|refine ⟨?_,?_⟩)),?_⟩
  repeat (first|refine yJ ?_|refine yI G G G G G ?_)
  repeat (first|refine zB ?_|refine zE ?_|refine zK G G G ?_|refine L_add G G (by omega) (by omega) G G ?_)
  exact ⟨hx,_,(by repeat (first|exact zT _|refine zO G ?_)),v9,h9,_,rfl,by rw [hft]; unfold encBlk; simpa only [List.append_assoc] using ho9,yK.out⟩
 ·rw [List.take_of_length_le (by omega)] at ho
  repeat (first|refine zF ?_|refine yD ?_|refine zB ?_|refine zE ?_|refine zK G G G ?_|refine zM ?_|refine zI G ?_)
  exact ⟨[_],X+h,_,⟨rfl,trivial⟩,⟨h,by show OwL w0 0 (b++encL' encBlk l) vo h; unfold encL'; simpa only [List.append_assoc] using ho,rfl⟩,yK.out⟩
theorem refPutKpts_spec (w0:World) (X:Hp) (v u:Value) (b:List Bt) (l:List Kpt) (hv:RdL w0 X v b) (hu:RdL w0 X u l) (hl:(b++encL' encKpt l).length≤100000000000) :
  Spec Tryz.prog w0 94 [v,u] X (fun r h'=>∃ h,OwL w0 0 (b++encL' encKpt l) r h∧X+h=h'):=by
 rw [List.length_append,encL'_length] at hl
 have hln:=len_flat encKpt (fun x=>by rw [encKpt_len]; omega) l
 have hint:=refPutInt_spec w0 X v b l.length hv (by omega)
 have hb8:=be8_length (l.length:Int)
 obtain ⟨a,c,rfl⟩:=hv.shape
 obtain ⟨a1,c1,rfl⟩:=hu.shape
 refine zN Tryz.func94 G Tryz.ntmps94 Tryz.results94 G fun fr=>?_
 repeat (first|refine zF ?_|refine zB ?_|refine zE ?_|refine zK G G G ?_|refine L_len G G G ?_)
 refine zY G G (zQ G G G) hint ?_
 rintro v1 _ ⟨h1,ho1,rfl⟩
 repeat (first|refine zF ?_|refine zR ?_|refine zB ?_|refine zE ?_|refine zK G G G ?_)
 refine hold_count l.length (fun k g L=>∃ (vo:Value) (h R:Hp),g=[(0,vo),(1,.slice a1 l.length c1),(5,.int .i64 k)]∧OwL w0 0 (b++be8 l.length++((l.take k).map encKpt).flatten) vo h∧L=X+h+fr+R) _
  ⟨v1,h1,_,rfl,by simp only [List.take_zero,List.map_nil,List.flatten_nil,List.append_nil]; exact ho1,yK.out⟩ (by repeat (first|exact zT _|refine zO G ?_)) ?_
 rintro k g L hk ⟨vo,h,R,rfl,ho,rfl⟩
 repeat (first|refine zF ?_|refine zB ?_|refine zK G G G ?_|refine L_len G G G ?_)
 refine yG G G (pv_lss G G) (fun n1=>?_) (fun n1=>?_)
 ·have hx:k<l.length:=by omega
  have hst:=flat_step encKpt hx
  have hft:=flat_take encKpt hx
  have hel:=encKpt_len l[k]
  obtain ⟨b2,o2,rfl,e,⟨a3,c3,rfl,hdat⟩,hat⟩:=hu.at hx
  generalize l[k]=x at *
  have hpl:(b++be8 l.length++((l.take k).map encKpt).flatten).length=b.length+8+((l.take k).map encKpt).flatten.length:=by rw [List.length_append,List.length_append,hb8]
  generalize ((l.take k).map encKpt).flatten=F at *
  repeat (first|refine zF ?_|refine zR ?_|refine zE ?_|refine zP ?_|refine zJ G ?_)
  refine yC [6,12] [0,1,2,3,4,5,7,8,9,10,11,6,12,13] (by kernel_rfl) G (by kernel_rfl) (by kernel_rfl) ?_
  repeat (first|refine yI G G G G G ?_|refine yE G G G G (yA G G G) ?_|refine W_idx G G G (by omega) G G G ?_|refine W_atf G G (by assumption) G G G G G ?_)
  refine W_call G G G G (zQ G G G) (refPutInt_spec w0 h _ _ x.snap ho.rdh (by first|omega|(simp only [List.length_append,be8_length] at *; omega))) (Kept.all _) ?_
  rintro y0 _ ⟨j0,q0,rfl⟩
  refine ⟨(by repeat (first|exact trivial|exact zG G (zS G)|exact zL G G G|exact zX G (by assumption) G|exact zH G (by assumption) G|exact zH G (by assumption) (by assumption)|refine ⟨?_,?_⟩)),?_⟩
  skip
  refine W_call G G G G (zQ G G G) (refPutInt_spec w0 j0 _ _ x.no q0.rdh (by first|omega|(simp only [List.length_append,be8_length] at *; omega))) (Kept.all _) ?_
  rintro y1 _ ⟨j1,q1,rfl⟩
  refine ⟨(by repeat (first|exact trivial|exact zG G (zS G)|exact zL G G G|exact zX G (by assumption) G|exact zH G (by assumption) G|exact zH G (by assumption) (by assumption)|refine ⟨?_,?_⟩)),?_⟩
  repeat (first|refine yJ ?_|refine yI G G G G G ?_)
  repeat (first|refine zB ?_|refine zK G G G ?_|refine zZ G G G G G ?_|refine L_idx G G (by omega) G G ?_|refine L_atf G (by assumption) G G G G ?_)
  refine zY G G (zQ G G G) (refPutBlob_spec w0 (X+j1) _ _ _ _ (q1.rd (R:=X)) (hdat.mono G) (by first|omega|(simp only [List.length_append,be8_length] at *; omega)) (by omega)) ?_
  rintro v9 _ ⟨h9,ho9,rfl⟩
  repeat (first|refine zB ?_|refine zE ?_|refine zK G G G ?_|refine L_add G G (by omega) (by omega) G G ?_)
  exact ⟨hx,_,(by repeat (first|exact zT _|refine zO G ?_)),v9,h9,_,rfl,by rw [hft]; unfold encKpt; simpa only [List.append_assoc] using ho9,yK.out⟩
 ·rw [List.take_of_length_le (by omega)] at ho
  repeat (first|refine zF ?_|refine yD ?_|refine zB ?_|refine zE ?_|refine zK G G G ?_|refine zM ?_|refine zI G ?_)
  exact ⟨[_],X+h,_,⟨rfl,trivial⟩,⟨h,by show OwL w0 0 (b++encL' encKpt l) vo h; unfold encL'; simpa only [List.append_assoc] using ho,rfl⟩,yK.out⟩
theorem refPut_spec (w0:World) (X:Hp) (s:Shd) (e:List Value) (he:RdShd w0 X s e) (hl:(encShd s).length≤10000000000) :
  Spec Tryz.prog w0 20 [.agg e.toArray] X (fun r h'=>∃ h,OwL w0 0 (encShd s) r h∧X+h=h'):=by
 obtain ⟨p1,q1,p2,q2,p3,q3,p4,q4,p5,q5,p6,q6,p7,q7,rfl,r1,r2,r3,r4,r5,r6,r7⟩:=he
 have hsz:(encShd s).length=24+(8+(s.blocks.map encBlk).flatten.length)+(8+(s.kept.map encKpt).flatten.length)+(8+(s.locks.map encLk).flatten.length)+(8+(s.preps.map encPrp).flatten.length)+(8+8*s.dead.length)+(8+(s.outs.map encOut).flatten.length)+(8+(s.sess.map encSes).flatten.length):=by
  unfold encShd
  simp only [List.length_append,be8_length,encInts_length,encL'_length]
 have l3:=len_flat encLk (fun x=>by rw [encLk_len]; omega) s.locks
 have l4:=len_flat encPrp (fun x=>by rw [encPrp_len]; omega) s.preps
 have l6:=len_flat encOut (fun x=>by rw [encOut_len]; omega) s.outs
 have l7:=len_flat encSes (fun x=>by rw [encSes_len]; omega) s.sess
 refine zN Tryz.func20 G Tryz.ntmps20 Tryz.results20 G fun fr=>?_
 repeat (first|refine zF ?_|refine zB ?_|refine zE ?_|refine zK G G G ?_|refine zZ G G G G G ?_|refine L_ld G G G G G ?_|refine L_box G (c:=[_,_,_,_,_,_,_,_,_,_]) G G G (fun _=>?_)|refine L_bs (vs:=[_,_,_]) (cells:=[_,_,_]) G G G G G G (fun _=>?_))
 rename_i b1 b9
 have hI:=refW_ints_spec w0 (intsAt b9 [s.lo,s.hi,s.epoch]) (.slice none 0 0) (.slice (some ⟨b9,0,none⟩) 3 3) [] [s.lo,s.hi,s.epoch] (RdL.nil _ _ _) (ints_block (b:=b9) [s.lo,s.hi,s.epoch] (by simp)) (by simp) (by simp)
 change Spec _ _ _ _ (pt b9 (.cells [.int .i64 s.lo,.int .i64 s.hi,.int .i64 s.epoch].toArray 3 (0,0))) _ at hI
 refine zY G G (zQ G G G) hI ?_
 rintro v1 _ ⟨h1,ho1,rfl⟩
 have e1:[]++([s.lo,s.hi,s.epoch].map be8).flatten=be8 s.lo++be8 s.hi++be8 s.epoch:=by simp
 rw [e1] at ho1
 repeat (first|refine zF ?_|refine zE ?_|refine zK G G G ?_)
 refine yC [3,6] [0,1,2,4,5,3,6,7] (by kernel_rfl) G (by kernel_rfl) (by kernel_rfl) ?_
 repeat (first|refine yI G G G G G ?_|refine yE G G G G (yA G G G) ?_|refine W_load G G G G (yF G) (zG G (zS G)) ?_)
 refine W_call G G G G (zQ G G G) (refPutBlks_spec w0 (X+h1) _ _ _ s.blocks (ho1.rd (R:=X)) (r1.mono G) (by simp only [List.length_append,be8_length,encL'_length]; omega)) (Kept.all _) ?_
 rintro v2 _ ⟨h2,ho2,rfl⟩
 refine ⟨(by repeat (first|exact trivial|exact zG G (zS G)|exact zL G G G|exact zX G (by assumption) G|exact zH G (by assumption) G|exact zH G (by assumption) (by assumption)|refine ⟨?_,?_⟩)),?_⟩
 skip
 refine W_call G G G G (zQ G G G) (refPutKpts_spec w0 (X+h2) _ _ _ s.kept (ho2.rd (R:=X)) (r2.mono G) (by simp only [List.length_append,be8_length,encL'_length]; omega)) (Kept.all _) ?_
 rintro v3 _ ⟨h3,ho3,rfl⟩
 refine ⟨(by repeat (first|exact trivial|exact zG G (zS G)|exact zL G G G|exact zX G (by assumption) G|exact zH G (by assumption) G|exact zH G (by assumption) (by assumption)|refine ⟨?_,?_⟩)),?_⟩
 repeat (first|refine yJ ?_|refine yI G G G G G ?_)
 have lP:(be8 s.lo++be8 s.hi++be8 s.epoch++encL' encBlk s.blocks++encL' encKpt s.kept).length=24+(8+(s.blocks.map encBlk).flatten.length)+(8+(s.kept.map encKpt).flatten.length):=by simp only [List.length_append,be8_length,encL'_length]
 generalize hP1:be8 s.lo++be8 s.hi++be8 s.epoch++encL' encBlk s.blocks++encL' encKpt s.kept=P1 at *
 repeat (first|refine zF ?_|refine zB ?_|refine zK G G G ?_|refine zZ G G G G G ?_|refine L_ld G G G G G ?_|refine L_len G G G ?_)
 refine zY G G (zQ G G G) (refPutInt_spec w0 h3 _ _ s.locks.length ho3.rdh (by first|omega|(simp only [List.length_append,be8_length] at *; omega))) ?_
 rintro va _ ⟨ha,oa,rfl⟩
 repeat (first|refine zF ?_|refine zR ?_|refine zB ?_|refine zE ?_|refine zK G G G ?_)
 refine hold_count s.locks.length (fun k g L=>∃ (vo:Value) (h R:Hp),g=[(1,.pointer (some ⟨b1,0,none⟩)),(3,vo),(4,.int .i64 k)]∧OwL w0 0 (P1++be8 s.locks.length++((s.locks.take k).map encLk).flatten) vo h∧L=X+h+pt b1 (.cells [.int .i64 s.lo,.int .i64 s.hi,.int .i64 s.epoch,.slice p1 s.blocks.length q1,.slice p2 s.kept.length q2,.slice p3 s.locks.length q3,.slice p4 s.preps.length q4,.slice p5 s.dead.length q5,.slice p6 s.outs.length q6,.slice p7 s.sess.length q7].toArray 33 (0,0))+fr+R) _
  ⟨va,ha,_,rfl,by simp only [List.take_zero,List.map_nil,List.flatten_nil,List.append_nil]; exact oa,yK.out⟩ (by repeat (first|exact zT _|refine zO G ?_)) ?_
 rintro k g L hk ⟨vo,h,R,rfl,ho,rfl⟩
 repeat (first|refine zF ?_|refine zB ?_|refine zK G G G ?_|refine zZ G G G G G ?_|refine L_ld G G G G G ?_|refine L_len G G G ?_)
 refine yG G G (pv_lss G G) (fun n1=>?_) (fun n1=>?_)
 ·have hx:k<s.locks.length:=by omega
  have hst:=flat_step encLk hx
  have hft:=flat_take encLk hx
  have hel:=encLk_len s.locks[k]
  have hb8:=be8_length (s.locks.length:Int)
  obtain ⟨b2,o2,rfl,e,he,hat⟩:=r3.at hx
  obtain rfl:e=[.int .i64 s.locks[k].block,.int .i64 s.locks[k].txn,.int .i64 s.locks[k].age,.bool s.locks[k].write]:=he
  generalize s.locks[k]=x at *
  obtain ⟨xb,xt,xa,xw⟩:=x
  simp only at hat
  generalize ((s.locks.take k).map encLk).flatten=F at *
  cases xw
  ·repeat (first|refine zF ?_|refine zR ?_|refine zB ?_|refine zE ?_|refine zK G G G ?_|refine zZ G G G G G ?_|refine L_ld G G G G G ?_|refine zP ?_|refine zJ G ?_|refine zI G ?_|refine L_idx G G (by omega) G G ?_|refine L_atA G (by assumption) G G G G ?_|refine L_stA G (vs:=[_,_,_,_]) G G G G (c':=[_,_,_,_]) G G ?_|refine L_alloc (c:=[_,_,_,_]) G G G (fun _=>?_)|refine L_bs (vs:=[_,_,_,_]) (cells:=[_,_,_,_]) G G G G G G (fun _=>?_))
   rename_i b6 b7
   have hI:=refW_ints_spec w0 (h+intsAt b7 [xb,xt,xa,0]) _ (.slice (some ⟨b7,0,none⟩) 4 4) _ [xb,xt,xa,0] (ho.rd (R:=intsAt b7 [xb,xt,xa,0])) ((ints_block (b:=b7) [xb,xt,xa,0] (by simp)).frame) (by first|omega|(simp only [List.length_append,be8_length,List.length_cons,List.length_nil] at *; omega)) (by simp)
   change Spec _ _ _ _ (h+pt b7 (.cells [.int .i64 xb,.int .i64 xt,.int .i64 xa,.int .i64 0].toArray 3 (0,0))) _ at hI
   refine zY G G (zQ G G G) hI ?_
   rintro v9 _ ⟨h9,ho9,rfl⟩
   repeat (first|refine zB ?_|refine zE ?_|refine zK G G G ?_|refine L_add G G (by omega) (by omega) G G ?_)
   exact ⟨hx,_,(by repeat (first|exact zT _|refine zO G ?_)),v9,h9,_,rfl,by rw [hft]; unfold encLk bit; simpa only [List.append_assoc,List.map_cons,List.map_nil,List.flatten_cons,List.flatten_nil,List.append_nil,Bool.false_eq_true,if_false] using ho9,yK.out⟩
  ·repeat (first|refine zF ?_|refine zR ?_|refine zB ?_|refine zE ?_|refine zK G G G ?_|refine zZ G G G G G ?_|refine L_ld G G G G G ?_|refine zP ?_|refine zJ G ?_|refine L_idx G G (by omega) G G ?_|refine L_atA G (by assumption) G G G G ?_|refine L_stA G (vs:=[_,_,_,_]) G G G G (c':=[_,_,_,_]) G G ?_|refine L_alloc (c:=[_,_,_,_]) G G G (fun _=>?_)|refine L_bs (vs:=[_,_,_,_]) (cells:=[_,_,_,_]) G G G G G G (fun _=>?_))
   rename_i b6 b7
   have hI:=refW_ints_spec w0 (h+intsAt b7 [xb,xt,xa,1]) _ (.slice (some ⟨b7,0,none⟩) 4 4) _ [xb,xt,xa,1] (ho.rd (R:=intsAt b7 [xb,xt,xa,1])) ((ints_block (b:=b7) [xb,xt,xa,1] (by simp)).frame) (by first|omega|(simp only [List.length_append,be8_length,List.length_cons,List.length_nil] at *; omega)) (by simp)
   change Spec _ _ _ _ (h+pt b7 (.cells [.int .i64 xb,.int .i64 xt,.int .i64 xa,.int .i64 1].toArray 3 (0,0))) _ at hI
   refine zY G G (zQ G G G) hI ?_
   rintro v9 _ ⟨h9,ho9,rfl⟩
   repeat (first|refine zB ?_|refine zE ?_|refine zK G G G ?_|refine L_add G G (by omega) (by omega) G G ?_)
   exact ⟨hx,_,(by repeat (first|exact zT _|refine zO G ?_)),v9,h9,_,rfl,by rw [hft]; unfold encLk bit; simpa only [List.append_assoc,List.map_cons,List.map_nil,List.flatten_cons,List.flatten_nil,List.append_nil,if_true] using ho9,yK.out⟩
 obtain rfl:k=s.locks.length:=by omega
 rw [List.take_length] at ho
 clear n1 hk
 have lP2:(P1++be8 s.locks.length++(s.locks.map encLk).flatten).length=P1.length+8+(s.locks.map encLk).flatten.length:=by simp only [List.length_append,be8_length]
 generalize hP2:P1++be8 s.locks.length++(s.locks.map encLk).flatten=P2 at *
 repeat (first|refine zF ?_|refine yD ?_|refine zB ?_|refine zE ?_|refine zK G G G ?_|refine zZ G G G G G ?_|refine L_ld G G G G G ?_|refine L_len G G G ?_|refine zI G ?_)
 refine zY G G (zQ G G G) (refPutInt_spec w0 h _ _ s.preps.length ho.rdh (by first|omega|(simp only [List.length_append,be8_length] at *; omega))) ?_
 rintro vb _ ⟨hb,ob,rfl⟩
 repeat (first|refine zF ?_|refine zR ?_|refine zB ?_|refine zE ?_|refine zK G G G ?_)
 refine hold_count s.preps.length (fun k g L=>∃ (vo:Value) (h R:Hp),g=[(1,.pointer (some ⟨b1,0,none⟩)),(3,vo),(7,.int .i64 k)]∧OwL w0 0 (P2++be8 s.preps.length++((s.preps.take k).map encPrp).flatten) vo h∧L=X+h+pt b1 (.cells [.int .i64 s.lo,.int .i64 s.hi,.int .i64 s.epoch,.slice p1 s.blocks.length q1,.slice p2 s.kept.length q2,.slice p3 s.locks.length q3,.slice p4 s.preps.length q4,.slice p5 s.dead.length q5,.slice p6 s.outs.length q6,.slice p7 s.sess.length q7].toArray 33 (0,0))+fr+R) _
  ⟨vb,hb,_,rfl,by simp only [List.take_zero,List.map_nil,List.flatten_nil,List.append_nil]; exact ob,yK.out⟩ (by repeat (first|exact zT _|refine zO G ?_)) ?_
 rintro k g L hk ⟨vo,h,R,rfl,ho,rfl⟩
 repeat (first|refine zF ?_|refine zB ?_|refine zK G G G ?_|refine zZ G G G G G ?_|refine L_ld G G G G G ?_|refine L_len G G G ?_)
 refine yG G G (pv_lss G G) (fun n1=>?_) (fun n1=>?_)
 ·have hx:k<s.preps.length:=by omega
  have hst:=flat_step encPrp hx
  have hft:=flat_take encPrp hx
  have hel:=encPrp_len s.preps[k]
  have hb8:=be8_length (s.preps.length:Int)
  obtain ⟨b2,o2,rfl,e,⟨a3,c3,a4,c4,rfl,hpt,hwr⟩,hat⟩:=r4.at hx
  generalize s.preps[k]=x at *
  generalize ((s.preps.take k).map encPrp).flatten=F at *
  have hwl:=len_flat encWr (fun x=>by rw [encWr_len]; omega) x.writes
  repeat (first|refine zF ?_|refine zR ?_|refine zB ?_|refine zE ?_|refine zK G G G ?_|refine zZ G G G G G ?_|refine L_ld G G G G G ?_|refine zP ?_|refine zJ G ?_|refine L_idx G G (by omega) G G ?_|refine L_atA G (by assumption) G G G G ?_|refine L_stA G (vs:=[_,_,_,_,_,_,_]) G G G G (c':=[_,_,_,_,_,_,_]) G G ?_|refine L_alloc (c:=[_,_,_,_,_,_,_]) G G G (fun _=>?_))
  rename_i b8
  refine yC [11,12,15] [0,1,2,3,4,5,6,7,8,9,10,13,14,11,12,15,16] (by kernel_rfl) G (by kernel_rfl) (by kernel_rfl) ?_
  repeat (first|refine yI G G G G G ?_|refine yE G G G G (yA G G G) ?_|refine W_load G G G G (yF G) (zG G (zS G)) ?_)
  refine W_eff G G G G (ev_buildSlice (vs:=[_,_,_,_,_]) (cells:=[_,_,_,_,_]) G G G G) (Kept.all _) ?_
  rintro _ _ ⟨b9,rfl,rfl⟩
  refine ⟨(by repeat (first|exact trivial|exact zG G (zS G)|exact zL G G G|exact zX G (by assumption) G|exact zH G (by assumption) G|exact zH G (by assumption) (by assumption)|refine ⟨?_,?_⟩)),?_⟩
  have hI:=refW_ints_spec w0 (h+intsAt b9 [x.txn,x.age,x.snap,x.lo,x.hi]) _ (.slice (some ⟨b9,0,none⟩) 5 5) _ [x.txn,x.age,x.snap,x.lo,x.hi] (ho.rd (R:=intsAt b9 [x.txn,x.age,x.snap,x.lo,x.hi])) ((ints_block (b:=b9) [x.txn,x.age,x.snap,x.lo,x.hi] (by simp)).frame) (by first|omega|(simp only [List.length_append,be8_length,List.length_cons,List.length_nil] at *; omega)) (by simp)
  change Spec _ _ _ _ (h+pt b9 (.cells [.int .i64 x.txn,.int .i64 x.age,.int .i64 x.snap,.int .i64 x.lo,.int .i64 x.hi].toArray 3 (0,0))) _ at hI
  refine W_call G G G G (zQ G G G) hI (Kept.all _) ?_
  rintro v5 _ ⟨h5,ho5,rfl⟩
  refine ⟨(by repeat (first|exact trivial|exact zG G (zS G)|exact zL G G G|exact zX G (by assumption) G|exact zH G (by assumption) G|exact zH G (by assumption) (by assumption)|refine ⟨?_,?_⟩)),?_⟩
  skip
  refine W_call G G G G (zQ G G G) (refPutInts_spec w0 (X+h5) _ _ _ x.parts (ho5.rd (R:=X)) (hpt.mono G) (by first|omega|(simp only [List.length_append,be8_length,List.map_cons,List.map_nil,List.flatten_cons,List.flatten_nil,List.length_nil] at *; omega)) (by omega)) (Kept.all _) ?_
  rintro v6 _ ⟨h6,ho6,rfl⟩
  refine ⟨(by repeat (first|exact trivial|exact zG G (zS G)|exact zL G G G|exact zX G (by assumption) G|exact zH G (by assumption) G|exact zH G (by assumption) (by assumption)|refine ⟨?_,?_⟩)),?_⟩
  repeat (first|refine yJ ?_|refine yI G G G G G ?_)
  repeat (first|refine zF ?_|refine zB ?_|refine zK G G G ?_|refine zZ G G G G G ?_|refine L_ld G G G G G ?_|refine L_len G G G ?_)
  refine zY G G (zQ G G G) (refPutInt_spec w0 h6 _ _ x.writes.length ho6.rdh (by first|omega|(simp only [List.length_append,be8_length,encInts_length,List.map_cons,List.map_nil,List.flatten_cons,List.flatten_nil,List.length_nil] at *; omega))) ?_
  rintro v7 _ ⟨h7,ho7,rfl⟩
  have hPL:(P2++be8 s.preps.length++F++([x.txn,x.age,x.snap,x.lo,x.hi].map be8).flatten++encInts x.parts++be8 x.writes.length).length=(P2).length+8+F.length+40+(8+8*x.parts.length)+8:=by
   simp only [List.length_append,be8_length,encInts_length,List.map_cons,List.map_nil,List.flatten_cons,List.flatten_nil,List.length_nil]
  generalize hPd:P2++be8 s.preps.length++F++([x.txn,x.age,x.snap,x.lo,x.hi].map be8).flatten++encInts x.parts++be8 x.writes.length=P at *
  repeat (first|refine zF ?_|refine zR ?_|refine zB ?_|refine zE ?_|refine zK G G G ?_)
  refine hold_count x.writes.length (fun j g L=>∃ (vo:Value) (h R:Hp),g=[(1,.pointer (some ⟨b1,0,none⟩)),(3,vo),(7,.int .i64 k),(8,.pointer (some ⟨b8,0,none⟩)),(9,.int .i64 j)]∧OwL w0 0 (P++((x.writes.take j).map encWr).flatten) vo h∧L=X+h+pt b1 (.cells [.int .i64 s.lo,.int .i64 s.hi,.int .i64 s.epoch,.slice p1 s.blocks.length q1,.slice p2 s.kept.length q2,.slice p3 s.locks.length q3,.slice (some ⟨b2,o2,none⟩) s.preps.length q4,.slice p5 s.dead.length q5,.slice p6 s.outs.length q6,.slice p7 s.sess.length q7].toArray 33 (0,0))+pt b8 (.cells [.int .i64 x.txn,.int .i64 x.age,.int .i64 x.snap,.int .i64 x.lo,.int .i64 x.hi,.slice a3 x.parts.length c3,.slice a4 x.writes.length c4].toArray 57 (0,0))+fr+R) _
   ⟨v7,h7,_,rfl,by simp only [List.take_zero,List.map_nil,List.flatten_nil,List.append_nil]; exact ho7,yK.out⟩ (by repeat (first|exact zT _|refine zO G ?_)) ?_
  rintro j g L hj ⟨vo2,h',R,rfl,ho',rfl⟩
  repeat (first|refine zF ?_|refine zB ?_|refine zK G G G ?_|refine zZ G G G G G ?_|refine L_ld G G G G G ?_|refine L_len G G G ?_)
  refine yG G G (pv_lss G G) (fun n2=>?_) (fun n2=>?_)
  ·have hx2:j<x.writes.length:=by omega
   have hst2:=flat_step encWr hx2
   have hft2:=flat_take encWr hx2
   have hel2:=encWr_len x.writes[j]
   obtain ⟨b6,o6,rfl,e,⟨a5,c5,rfl,hdat⟩,hat6⟩:=hwr.at hx2
   generalize x.writes[j]=y at *
   generalize ((x.writes.take j).map encWr).flatten=F2 at *
   repeat (first|refine zF ?_|refine zR ?_|refine zE ?_|refine zP ?_|refine zJ G ?_)
   refine yC [7,14] [0,1,2,3,4,5,6,8,9,10,11,12,13,7,14,15] (by kernel_rfl) G (by kernel_rfl) (by kernel_rfl) ?_
   repeat (first|refine yI G G G G G ?_|refine yE G G G G (yA G G G) ?_|refine W_load G G G G (yF G) (zG G (zS G)) ?_|refine W_idx G G G (by omega) G G G ?_|refine W_atf G G (by assumption) G G G G G ?_)
   refine W_call G G G G (zQ G G G) (refPutInt_spec w0 h' _ _ y.block ho'.rdh (by first|omega|(simp only [List.length_append,be8_length] at *; omega))) (Kept.all _) ?_
   rintro y0 _ ⟨j0,q0,rfl⟩
   refine ⟨(by repeat (first|exact trivial|exact zG G (zS G)|exact zL G G G|exact zX G (by assumption) G|exact zH G (by assumption) G|exact zH G (by assumption) (by assumption)|refine ⟨?_,?_⟩)),?_⟩
   skip
   refine W_call G G G G (zQ G G G) (refPutBlob_spec w0 (X+j0) _ _ _ _ (q0.rd (R:=X)) (hdat.mono G) (by first|omega|(simp only [List.length_append,be8_length] at *; omega)) (by omega)) (Kept.all _) ?_
   rintro v9 _ ⟨h9,ho9,rfl⟩
   refine ⟨(by repeat (first|exact trivial|exact zG G (zS G)|exact zL G G G|exact zX G (by assumption) G|exact zH G (by assumption) G|exact zH G (by assumption) (by assumption)|refine ⟨?_,?_⟩)),?_⟩
   repeat (first|refine yJ ?_|refine yI G G G G G ?_)
   repeat (first|refine zB ?_|refine zE ?_|refine zK G G G ?_|refine L_add G G (by omega) (by omega) G G ?_)
   exact ⟨hx2,_,(by repeat (first|exact zT _|refine zO G ?_)),v9,h9,_,rfl,by rw [hft2]; unfold encWr; simpa only [List.append_assoc] using ho9,yK.out⟩
  ·rw [List.take_of_length_le (by omega)] at ho'
   repeat (first|refine yD ?_|refine zB ?_|refine zE ?_|refine zK G G G ?_|refine zI G ?_|refine L_add G G (by omega) (by omega) G G ?_)
   exact ⟨hx,_,(by repeat (first|exact zT _|refine zO G ?_)),vo2,h',_,rfl,by rw [hft]; subst hPd; unfold encPrp encL'; simpa only [List.append_assoc,List.map_cons,List.map_nil,List.flatten_cons,List.flatten_nil,List.append_nil] using ho',yK.out⟩
 obtain rfl:k=s.preps.length:=by omega
 rw [List.take_length] at ho
 clear n1 hk
 have lP3:(P2++be8 s.preps.length++(s.preps.map encPrp).flatten).length=P2.length+8+(s.preps.map encPrp).flatten.length:=by simp only [List.length_append,be8_length]
 generalize hP3:P2++be8 s.preps.length++(s.preps.map encPrp).flatten=P3 at *
 repeat (first|refine zF ?_|refine yD ?_|refine zB ?_|refine zE ?_|refine zK G G G ?_|refine zZ G G G G G ?_|refine L_ld G G G G G ?_|refine zI G ?_)
 refine zY G G (zQ G G G) (refPutInts_spec w0 (X+h) _ _ _ s.dead (ho.rd (R:=X)) (r5.mono G) (by omega) (by omega)) ?_
 rintro v5 _ ⟨h5,ho5,rfl⟩
 have lP4:(P3++encInts s.dead).length=P3.length+8+8*s.dead.length:=by simp only [List.length_append,encInts_length]; omega
 generalize hP4:P3++encInts s.dead=P4 at *
 repeat (first|refine zF ?_|refine zB ?_|refine zE ?_|refine zK G G G ?_|refine zZ G G G G G ?_|refine L_ld G G G G G ?_|refine L_len G G G ?_)
 refine zY G G (zQ G G G) (refPutInt_spec w0 h5 _ _ s.outs.length ho5.rdh (by first|omega|(simp only [List.length_append,be8_length] at *; omega))) ?_
 rintro vc _ ⟨hc,oc,rfl⟩
 repeat (first|refine zF ?_|refine zR ?_|refine zB ?_|refine zE ?_|refine zK G G G ?_)
 refine hold_count s.outs.length (fun k g L=>∃ (vo:Value) (h R:Hp),g=[(1,.pointer (some ⟨b1,0,none⟩)),(3,vo),(10,.int .i64 k)]∧OwL w0 0 (P4++be8 s.outs.length++((s.outs.take k).map encOut).flatten) vo h∧L=X+h+pt b1 (.cells [.int .i64 s.lo,.int .i64 s.hi,.int .i64 s.epoch,.slice p1 s.blocks.length q1,.slice p2 s.kept.length q2,.slice p3 s.locks.length q3,.slice p4 s.preps.length q4,.slice p5 s.dead.length q5,.slice p6 s.outs.length q6,.slice p7 s.sess.length q7].toArray 33 (0,0))+fr+R) _
  ⟨vc,hc,_,rfl,by simp only [List.take_zero,List.map_nil,List.flatten_nil,List.append_nil]; exact oc,yK.out⟩ (by repeat (first|exact zT _|refine zO G ?_)) ?_
 rintro k g L hk ⟨vo,h,R,rfl,ho,rfl⟩
 repeat (first|refine zF ?_|refine zB ?_|refine zK G G G ?_|refine zZ G G G G G ?_|refine L_ld G G G G G ?_|refine L_len G G G ?_)
 refine yG G G (pv_lss G G) (fun n1=>?_) (fun n1=>?_)
 ·have hx:k<s.outs.length:=by omega
  have hst:=flat_step encOut hx
  have hft:=flat_take encOut hx
  have hel:=encOut_len s.outs[k]
  have hb8:=be8_length (s.outs.length:Int)
  obtain ⟨b2,o2,rfl,e,⟨a3,c3,rfl,hdat⟩,hat⟩:=r6.at hx
  generalize s.outs[k]=x at *
  generalize ((s.outs.take k).map encOut).flatten=F at *
  repeat (first|refine zF ?_|refine zR ?_|refine zE ?_|refine zP ?_|refine zJ G ?_)
  refine yC [19,20,27] [0,1,2,3,4,5,6,7,8,9,10,11,12,13,14,15,16,17,18,21,22,23,24,25,26,19,20,27,28] (by kernel_rfl) G (by kernel_rfl) (by kernel_rfl) ?_
  repeat (first|refine yI G G G G G ?_|refine yE G G G G (yA G G G) ?_|refine W_load G G G G (yF G) (zG G (zS G)) ?_|refine W_idx G G G (by omega) G G G ?_|refine W_atf G G (by assumption) G G G G G ?_)
  refine W_eff G G G G (ev_buildSlice (vs:=[_,_,_]) (cells:=[_,_,_]) G G G G) (Kept.all _) ?_
  rintro _ _ ⟨b9,rfl,rfl⟩
  refine ⟨(by repeat (first|exact trivial|exact zG G (zS G)|exact zL G G G|exact zX G (by assumption) G|exact zH G (by assumption) G|exact zH G (by assumption) (by assumption)|refine ⟨?_,?_⟩)),?_⟩
  have hI:=refW_ints_spec w0 (h+intsAt b9 [x.epoch,x.lo,x.hi]) _ (.slice (some ⟨b9,0,none⟩) 3 3) _ [x.epoch,x.lo,x.hi] (ho.rd (R:=intsAt b9 [x.epoch,x.lo,x.hi])) ((ints_block (b:=b9) [x.epoch,x.lo,x.hi] (by simp)).frame) (by first|omega|(simp only [List.length_append,be8_length,List.length_cons,List.length_nil] at *; omega)) (by simp)
  change Spec _ _ _ _ (h+pt b9 (.cells [.int .i64 x.epoch,.int .i64 x.lo,.int .i64 x.hi].toArray 3 (0,0))) _ at hI
  refine W_call G G G G (zQ G G G) hI (Kept.all _) ?_
  rintro v5 _ ⟨h5,ho5,rfl⟩
  refine ⟨(by repeat (first|exact trivial|exact zG G (zS G)|exact zL G G G|exact zX G (by assumption) G|exact zH G (by assumption) G|exact zH G (by assumption) (by assumption)|refine ⟨?_,?_⟩)),?_⟩
  skip
  refine W_call G G G G (zQ G G G) (refPutBlob_spec w0 (X+h5) _ _ _ _ (ho5.rd (R:=X)) (hdat.mono G) (by first|omega|(simp only [List.length_append,be8_length,List.map_cons,List.map_nil,List.flatten_cons,List.flatten_nil,List.length_nil] at *; omega)) (by omega)) (Kept.all _) ?_
  rintro v9 _ ⟨h9,ho9,rfl⟩
  refine ⟨(by repeat (first|exact trivial|exact zG G (zS G)|exact zL G G G|exact zX G (by assumption) G|exact zH G (by assumption) G|exact zH G (by assumption) (by assumption)|refine ⟨?_,?_⟩)),?_⟩
  repeat (first|refine yJ ?_|refine yI G G G G G ?_)
  repeat (first|refine zB ?_|refine zE ?_|refine zK G G G ?_|refine L_add G G (by omega) (by omega) G G ?_)
  exact ⟨hx,_,(by repeat (first|exact zT _|refine zO G ?_)),v9,h9,_,rfl,by rw [hft]; unfold encOut; simpa only [List.append_assoc,List.map_cons,List.map_nil,List.flatten_cons,List.flatten_nil,List.append_nil] using ho9,yK.out⟩
 obtain rfl:k=s.outs.length:=by omega
 rw [List.take_length] at ho
 clear n1 hk
 have lP5:(P4++be8 s.outs.length++(s.outs.map encOut).flatten).length=P4.length+8+(s.outs.map encOut).flatten.length:=by simp only [List.length_append,be8_length]
 generalize hP5:P4++be8 s.outs.length++(s.outs.map encOut).flatten=P5 at *
 repeat (first|refine zF ?_|refine yD ?_|refine zB ?_|refine zE ?_|refine zK G G G ?_|refine zZ G G G G G ?_|refine L_ld G G G G G ?_|refine L_len G G G ?_|refine zI G ?_)
 refine zY G G (zQ G G G) (refPutInt_spec w0 h _ _ s.sess.length ho.rdh (by first|omega|(simp only [List.length_append,be8_length] at *; omega))) ?_
 rintro vd _ ⟨hd,od,rfl⟩
 repeat (first|refine zF ?_|refine zR ?_|refine zB ?_|refine zE ?_|refine zK G G G ?_)
 refine hold_count s.sess.length (fun k g L=>∃ (vo:Value) (h R:Hp),g=[(1,.pointer (some ⟨b1,0,none⟩)),(3,vo),(11,.int .i64 k)]∧OwL w0 0 (P5++be8 s.sess.length++((s.sess.take k).map encSes).flatten) vo h∧L=X+h+pt b1 (.cells [.int .i64 s.lo,.int .i64 s.hi,.int .i64 s.epoch,.slice p1 s.blocks.length q1,.slice p2 s.kept.length q2,.slice p3 s.locks.length q3,.slice p4 s.preps.length q4,.slice p5 s.dead.length q5,.slice p6 s.outs.length q6,.slice p7 s.sess.length q7].toArray 33 (0,0))+fr+R) _
  ⟨vd,hd,_,rfl,by simp only [List.take_zero,List.map_nil,List.flatten_nil,List.append_nil]; exact od,yK.out⟩ (by repeat (first|exact zT _|refine zO G ?_)) ?_
 rintro k g L hk ⟨vo,h,R,rfl,ho,rfl⟩
 repeat (first|refine zF ?_|refine zB ?_|refine zK G G G ?_|refine zZ G G G G G ?_|refine L_ld G G G G G ?_|refine L_len G G G ?_)
 refine yG G G (pv_lss G G) (fun n1=>?_) (fun n1=>?_)
 ·have hx:k<s.sess.length:=by omega
  have hst:=flat_step encSes hx
  have hft:=flat_take encSes hx
  have hel:=encSes_len s.sess[k]
  have hb8:=be8_length (s.sess.length:Int)
  obtain ⟨b2,o2,rfl,e,⟨a3,c3,rfl,hdat⟩,hat⟩:=r7.at hx
  generalize s.sess[k]=x at *
  generalize ((s.sess.take k).map encSes).flatten=F at *
  repeat (first|refine zF ?_|refine zR ?_|refine zB ?_|refine zE ?_|refine zK G G G ?_|refine zZ G G G G G ?_|refine L_ld G G G G G ?_|refine zP ?_|refine zJ G ?_|refine L_idx G G (by omega) G G ?_|refine L_atA G (by assumption) G G G G ?_|refine L_stA G (vs:=[_,_,_,_]) G G G G (c':=[_,_,_,_]) G G ?_|refine L_alloc (c:=[_,_,_,_]) G G G (fun _=>?_))
  rename_i b8
  refine yC [8,9,13] [0,1,2,3,4,5,6,7,10,11,12,8,9,13,14] (by kernel_rfl) G (by kernel_rfl) (by kernel_rfl) ?_
  repeat (first|refine yI G G G G G ?_|refine yE G G G G (yA G G G) ?_|refine W_load G G G G (yF G) (zG G (zS G)) ?_)
  refine W_eff G G G G (ev_buildSlice (vs:=[_,_,_]) (cells:=[_,_,_]) G G G G) (Kept.all _) ?_
  rintro _ _ ⟨b9,rfl,rfl⟩
  refine ⟨(by repeat (first|exact trivial|exact zG G (zS G)|exact zL G G G|exact zX G (by assumption) G|exact zH G (by assumption) G|exact zH G (by assumption) (by assumption)|refine ⟨?_,?_⟩)),?_⟩
  have hI:=refW_ints_spec w0 (h+intsAt b9 [x.client,x.seq,x.res.code]) _ (.slice (some ⟨b9,0,none⟩) 3 3) _ [x.client,x.seq,x.res.code] (ho.rd (R:=intsAt b9 [x.client,x.seq,x.res.code])) ((ints_block (b:=b9) [x.client,x.seq,x.res.code] (by simp)).frame) (by first|omega|(simp only [List.length_append,be8_length,List.length_cons,List.length_nil] at *; omega)) (by simp)
  change Spec _ _ _ _ (h+pt b9 (.cells [.int .i64 x.client,.int .i64 x.seq,.int .i64 x.res.code].toArray 3 (0,0))) _ at hI
  refine W_call G G G G (zQ G G G) hI (Kept.all _) ?_
  rintro v5 _ ⟨h5,ho5,rfl⟩
  refine ⟨(by repeat (first|exact trivial|exact zG G (zS G)|exact zL G G G|exact zX G (by assumption) G|exact zH G (by assumption) G|exact zH G (by assumption) (by assumption)|refine ⟨?_,?_⟩)),?_⟩
  skip
  refine W_call G G G G (zQ G G G) (refPutBlob_spec w0 (X+h5) _ _ _ _ (ho5.rd (R:=X)) (hdat.mono G) (by first|omega|(simp only [List.length_append,be8_length,List.map_cons,List.map_nil,List.flatten_cons,List.flatten_nil,List.length_nil] at *; omega)) (by omega)) (Kept.all _) ?_
  rintro v9 _ ⟨h9,ho9,rfl⟩
  refine ⟨(by repeat (first|exact trivial|exact zG G (zS G)|exact zL G G G|exact zX G (by assumption) G|exact zH G (by assumption) G|exact zH G (by assumption) (by assumption)|refine ⟨?_,?_⟩)),?_⟩
  repeat (first|refine yJ ?_|refine yI G G G G G ?_)
  repeat (first|refine zB ?_|refine zE ?_|refine zK G G G ?_|refine L_add G G (by omega) (by omega) G G ?_)
  exact ⟨hx,_,(by repeat (first|exact zT _|refine zO G ?_)),v9,h9,_,rfl,by rw [hft]; unfold encSes; simpa only [List.append_assoc,List.map_cons,List.map_nil,List.flatten_cons,List.flatten_nil,List.append_nil] using ho9,yK.out⟩
 obtain rfl:k=s.sess.length:=by omega
 rw [List.take_length] at ho
 clear n1 hk
 repeat (first|refine zF ?_|refine yD ?_|refine zB ?_|refine zE ?_|refine zK G G G ?_|refine zM ?_|refine zI G ?_)
 have eq:P5++be8 s.sess.length++(s.sess.map encSes).flatten=encShd s:=by
  subst hP5 hP4 hP3 hP2 hP1
  unfold encShd encL'
  simp only [List.append_assoc]
 rw [eq] at ho
 exact ⟨[_],X+h,_,⟨rfl,trivial⟩,⟨h,ho,rfl⟩,yK.out⟩
end Sl
end Go.Proofs.YtpkealohodeifaaGreat
namespace Go.Proofs.YtpkealohodeifaaGreat
open Go Go.RowKit
namespace Sl
set_option maxHeartbeats 16000000
set_option maxRecDepth 4000
set_option synthInstance.maxHeartbeats 400000
set_option synthInstance.maxSize 100000
attribute [local irreducible] Hold HoldL HoldW
abbrev PB :=Nat × List Value × TypeId
theorem hl_cons (x:PB) (l:List PB):Hl (x::l)=pt x.1 (.cells x.2.1.toArray x.2.2 (0,0))+Hl l:=rfl
def getH :List PB→Nat→Nat→Option Value
 | [],_,_=>none
 | x::l,b,j=>if x.1=b then x.2.1[j]? else getH l b j
def splH :List PB→Nat→Nat→List Value→List PB
 | [],_,_,_=>[]
 | x::l,b,j,v=>if x.1=b then (b,spliceL j v x.2.1,x.2.2)::l else x::splH l b j v
theorem hl_split :∀ {l:List PB} {b j:Nat} {u:Value},getH l b j=some u→∃ (cs:List Value) (e:TypeId) (R:Hp),Hl l=pt b (.cells cs.toArray e (0,0))+R∧(∀ i,getH l b i=cs[i]?) ∧
  ∀ i vs,Hl (splH l b i vs)=pt b (.cells (spliceL i vs cs).toArray e (0,0))+R∧(∀ k,getH (splH l b i vs) b k=(spliceL i vs cs)[k]?)∧∀ b' k,b'≠b→getH (splH l b i vs) b' k=getH l b' k
 | [],_,_,_,h=>by cases h
 | (b',cs,e)::l,b,j,u,h=>by
  by_cases hb:b'=b
  ·subst hb
   refine ⟨cs,e,Hl l,rfl,fun i=>if_pos G,fun i vs=>?_⟩
   have e1:splH ((b',cs,e)::l) b' i vs=(b',spliceL i vs cs,e)::l:=if_pos G
   rw [e1]
   exact ⟨rfl,fun k=>if_pos G,fun c k hc=>(if_neg (fun h=>hc h.symm)).trans (if_neg (fun h=>hc h.symm)).symm⟩
  ·have h':getH l b j=some u:=(if_neg hb).symm.trans h
   obtain ⟨cs2,e2,R,h1,h2,h3⟩:=hl_split h'
   refine ⟨cs2,e2,pt b' (.cells cs.toArray e (0,0))+R,?_,fun i=>(if_neg hb).trans (h2 i),fun i vs=>?_⟩
   ·show pt b' (.cells cs.toArray e (0,0))+Hl l=_
    rw [h1]; ac_rfl
   ·have e1:splH ((b',cs,e)::l) b i vs=(b',cs,e)::splH l b i vs:=if_neg hb
    obtain ⟨a1,a2,a3⟩:=h3 i vs
    rw [e1]
    refine ⟨by show pt b' (.cells cs.toArray e (0,0))+Hl (splH l b i vs)=_; rw [a1]; ac_rfl,fun k=>(if_neg hb).trans (a2 k),fun c k hc=>?_⟩
    show (if b'=c then cs[k]? else getH (splH l b i vs) c k)=(if b'=c then cs[k]? else getH l c k)
    rw [a3 c k hc]
inductive Was :Value→Value→Prop
 | same (v:Value):Was v v
 | int (k:IntKind) (i j:Int):Was (.int k i) (.int k j)
 | bool (p q:Bool):Was (.bool p) (.bool q)
 | slice (a:Option Addr) (n c:Nat):Was (.slice a n c) (.slice none 0 0)
theorem Was.trans {u v w:Value} (h:Was u v) (k:Was v w):Was u w:=by
 cases h with
 | same=>exact k
 | int=>cases k<;>constructor
 | bool=>cases k<;>constructor
 | slice=>cases k<;>constructor
def Mod (l m:List PB):Prop:=∀ b j v,getH l b j=some v→∃ v',getH m b j=some v'∧Was v v'
theorem Mod.refl (l:List PB):Mod l l:=fun b j v h=>⟨v,h,.same v⟩
theorem Mod.trans {l m n:List PB} (h:Mod l m) (k:Mod m n):Mod l n:=fun b j v hv=>by
 obtain ⟨v',h1,h2⟩:=h b j v hv
 obtain ⟨v'',h3,h4⟩:=k b j v' h1
 exact ⟨v'',h3,h2.trans h4⟩
theorem was_splice :∀ (vs cs:List Value) (j:Nat),(∀ i v,vs[i]?=some v→∃ u,cs[j+i]?=some u∧Was u v)→∀ (i:Nat) (u:Value),cs[i]?=some u→∃ v,(spliceL j vs cs)[i]?=some v∧Was u v
 | [],cs,j,_,i,u,h=>⟨u,by rw [splice_nil]; exact h,.same u⟩
 | x::vs,cs,j,hv,i,u,h=>by
  obtain ⟨u0,h0,w0⟩:=hv 0 x rfl
  have hj:j<cs.length:=(List.getElem?_eq_some_iff.1 h0).1
  rw [splice_set]
  have ih:=was_splice vs (cs.set j x) (j+1) (fun i v hi=>by
   obtain ⟨u1,h1,w1⟩:=hv (i+1) v hi
   exact ⟨u1,by rw [List.getElem?_set_ne (by omega),show j+1+i=j+(i+1) by omega]; exact h1,w1⟩)
  by_cases hi:i=j
  ·subst hi
   have e:u0=u:=by
    have:cs[i]?=some u0:=h0
    rw [this] at h
    exact Option.some.inj h
   subst e
   obtain ⟨v,h1,h2⟩:=ih i x (List.getElem?_set_self hj)
   exact ⟨v,h1,w0.trans h2⟩
  ·exact ih i u (by rw [List.getElem?_set_ne (fun h=>hi h.symm)]; exact h)
theorem Mod.spl {l:List PB} {b:Nat} {cs:List Value} {j:Nat} {vs:List Value} (hg:∀ i,getH l b i=cs[i]?) (h2:∀ k,getH (splH l b j vs) b k=(spliceL j vs cs)[k]?) (h3:∀ b' k,b'≠b→getH (splH l b j vs) b' k=getH l b' k)
  (hv:∀ i v,vs[i]?=some v→∃ u,getH l b (j+i)=some u∧Was u v):Mod l (splH l b j vs):=fun b' i u h=>by
 by_cases hb:b'=b
 ·subst hb
  rw [hg] at h
  obtain ⟨v,h4,h5⟩:=was_splice vs cs j (fun i v hi=>by obtain ⟨u,a1,a2⟩:=hv i v hi; exact ⟨u,by rw [← hg]; exact a1,a2⟩) i u h
  exact ⟨v,by rw [h2]; exact h4,h5⟩
 ·exact ⟨u,by rw [h3 _ _ hb]; exact h,.same u⟩
theorem splice_one (j:Nat) (v:Value) (cs:List Value):spliceL j [v] cs=cs.set j v:=by rw [splice_set,splice_nil]
def BytH (l:List PB) (a:Option Addr) (n:Nat):Prop:=n≤1000000000000∧∀ i,i<n→∃ b off x,a=some ⟨b,off,none⟩∧getH l b (off+i)=some (.int .u8 x)
def IntH (l:List PB) (a:Option Addr) (n:Nat):Prop:=n≤1000000000000∧∀ i,i<n→∃ b off x,a=some ⟨b,off,none⟩∧getH l b (off+i)=some (.int .i64 x)
inductive Ty
 | int
 | bool
 | bytes
 | ints
 | writes
def HasT (l:List PB) (W:List PB→Option Addr→Nat→Prop):Ty→Value→Prop
 | .int,v=>∃ x,v=.int .i64 x
 | .bool,v=>∃ x,v=.bool x
 | .bytes,v=>∃ a n c,v=.slice a n c∧BytH l a n
 | .ints,v=>∃ a n c,v=.slice a n c∧IntH l a n
 | .writes,v=>∃ a n c,v=.slice a n c∧W l a n
def RowT (W:List PB→Option Addr→Nat→Prop) (ts:List Ty) (l:List PB) (a:Option Addr) (n:Nat):Prop:=n≤1000000000000∧∀ i,i<n→∃ b off,a=some ⟨b,off,none⟩∧∀ j t,ts[j]?=some t→∃ v,getH l b (off+i*ts.length+j)=some v∧HasT l W t v
def WrH :List PB→Option Addr→Nat→Prop:=RowT (fun _ _ n=>n=0) [.int,.bytes]
def RowH (ts:List Ty):List PB→Option Addr→Nat→Prop:=RowT WrH ts
theorem BytH.nil (l:List PB):BytH l none 0:=⟨by omega,fun i h=>by omega⟩
theorem IntH.nil (l:List PB):IntH l none 0:=⟨by omega,fun i h=>by omega⟩
theorem BytH.mod {l m:List PB} (h:Mod l m) {a:Option Addr} {n:Nat} (H:BytH l a n):BytH m a n:=⟨H.1,fun i hi=>by
 obtain ⟨b,off,x,h1,h2⟩:=H.2 i hi
 obtain ⟨v,h3,h4⟩:=h _ _ _ h2
 cases h4 with
 | same=>exact ⟨b,off,_,h1,h3⟩
 | int _ _ j=>exact ⟨b,off,_,h1,h3⟩⟩
theorem IntH.mod {l m:List PB} (h:Mod l m) {a:Option Addr} {n:Nat} (H:IntH l a n):IntH m a n:=⟨H.1,fun i hi=>by
 obtain ⟨b,off,x,h1,h2⟩:=H.2 i hi
 obtain ⟨v,h3,h4⟩:=h _ _ _ h2
 cases h4 with
 | same=>exact ⟨b,off,_,h1,h3⟩
 | int _ _ j=>exact ⟨b,off,_,h1,h3⟩⟩
theorem HasT.mod {W:List PB→Option Addr→Nat→Prop} {l m:List PB} (h:Mod l m) (hW:∀ a n,W l a n→W m a n) (h0:W m none 0) {t:Ty} {v v':Value} (H:HasT l W t v) (hw:Was v v'):HasT m W t v':=by
 cases t with
 | int=>obtain ⟨x,rfl⟩:=H; cases hw<;>exact ⟨_,rfl⟩
 | bool=>obtain ⟨x,rfl⟩:=H; cases hw<;>exact ⟨_,rfl⟩
 | bytes =>
  obtain ⟨a,n,c,rfl,H⟩:=H
  cases hw with
  | same=>exact ⟨a,n,c,rfl,H.mod h⟩
  | slice=>exact ⟨none,0,0,rfl,BytH.nil _⟩
 | ints =>
  obtain ⟨a,n,c,rfl,H⟩:=H
  cases hw with
  | same=>exact ⟨a,n,c,rfl,H.mod h⟩
  | slice=>exact ⟨none,0,0,rfl,IntH.nil _⟩
 | writes =>
  obtain ⟨a,n,c,rfl,H⟩:=H
  cases hw with
  | same=>exact ⟨a,n,c,rfl,hW _ _ H⟩
  | slice=>exact ⟨none,0,0,rfl,h0⟩
theorem RowT.mod {W:List PB→Option Addr→Nat→Prop} {ts:List Ty} {l m:List PB} (h:Mod l m) (hW:∀ a n,W l a n→W m a n) (h0:W m none 0) {a:Option Addr} {n:Nat} (H:RowT W ts l a n):RowT W ts m a n:=⟨H.1,fun i hi=>by
 obtain ⟨b,off,h1,h2⟩:=H.2 i hi
 refine ⟨b,off,h1,fun j t hj=>?_⟩
 obtain ⟨v,h3,h4⟩:=h2 j t hj
 obtain ⟨v',h5,h6⟩:=h _ _ _ h3
 exact ⟨v',h5,h4.mod h hW h0 h6⟩⟩
theorem WrH.mod {l m:List PB} (h:Mod l m) {a:Option Addr} {n:Nat} (H:WrH l a n):WrH m a n:=RowT.mod h (fun _ _ h=>h) G H
theorem WrH.nil (l:List PB):WrH l none 0:=⟨by omega,fun i h=>by omega⟩
theorem RowH.mod {ts:List Ty} {l m:List PB} (h:Mod l m) {a:Option Addr} {n:Nat} (H:RowH ts l a n):RowH ts m a n:=RowT.mod h (fun _ _ h'=>h'.mod h) (WrH.nil _) H
theorem spoilHB_spec (w0:World) (l:List PB) (a:Option Addr) (n c:Nat) (H:BytH l a n) :
  Spec Tryz.prog w0 17 [.slice a n c] (Hl l) (fun r h'=>∃ m,Mod l m∧Hl m=h'):=by
 have hn:=H.1
 refine zN Tryz.func17 G Tryz.ntmps17 Tryz.results17 G fun fr=>?_
 repeat (first|refine zF ?_|refine zR ?_|refine zB ?_|refine zE ?_|refine zK G G G ?_)
 refine hold_count n (fun k g L=>∃ (m:List PB) (R:Hp),g=[(0,.slice a n c),(2,.int .i64 k)]∧Mod l m∧L=Hl m+fr+R) _ ⟨l,0,rfl,Mod.refl l,(yB _).symm⟩ (by repeat (first|exact zT _|refine zO G ?_)) ?_
 rintro k g L hk ⟨m,R,rfl,hm,rfl⟩
 repeat (first|refine zF ?_|refine zB ?_|refine zK G G G ?_|refine L_len G G G ?_)
 refine yG G G (pv_lss G G) (fun n1=>?_) (fun n1=>?_)
 ·have hx:k<n:=by omega
  obtain ⟨b,off,x,rfl,hg⟩:=(H.mod hm).2 k hx
  obtain ⟨cs,e,R2,h1,h2,h3⟩:=hl_split hg
  have hc:cs[off+k*1]?=some (.int .u8 x):=by rw [Nat.mul_one,← h2]; exact hg
  have hs:∀ v,cs.set (off+k*1) v=spliceL (off+k) [v] cs:=fun v=>by rw [splice_one,Nat.mul_one]
  rw [h1]
  repeat (first|refine zF ?_|refine zR ?_|refine zB ?_|refine zE ?_|refine zK G G G ?_|refine zP ?_|refine zJ G ?_|refine L_idx G G (by omega) G G ?_)
  refine L_ld G hc G G G ?_
  refine yH G G (pv_xor G G) ?_
  repeat (refine L_idx G G (by omega) G G ?_)
  refine L_st G G hc (hs _) G G G ?_
  repeat (first|refine zB ?_|refine zE ?_|refine zK G G G ?_|refine L_add G G (by omega) (by omega) G G ?_)
  obtain ⟨a1,a2,a3⟩:=h3 (off+k) [.int .u8 (IntKind.u8.wrap (BitVec.ofInt IntKind.u8.bits x ^^^ BitVec.ofInt IntKind.u8.bits 90).toNat)]
  have hm2:Mod m (splH m b (off+k) [.int .u8 (IntKind.u8.wrap (BitVec.ofInt IntKind.u8.bits x ^^^ BitVec.ofInt IntKind.u8.bits 90).toNat)]):=Mod.spl h2 a2 a3 (fun i v hi=>by
   cases i with
   | succ i=>simp at hi
   | zero =>
    simp only [List.getElem?_cons_zero,Option.some.injEq] at hi
    subst hi
    exact ⟨_,hg,.int _ _ _⟩)
  exact ⟨by omega,_,(by repeat (first|exact zT _|refine zO G ?_)),_,R,rfl,hm.trans hm2,by rw [a1]; ac_rfl⟩
 ·repeat (first|refine yD ?_|refine zE ?_|refine zI G ?_)
  exact ⟨[],Hl m,R,trivial,⟨m,hm,rfl⟩,rfl⟩
theorem spoilHI_spec (w0:World) (l:List PB) (a:Option Addr) (n c:Nat) (H:IntH l a n) :
  Spec Tryz.prog w0 82 [.slice a n c] (Hl l) (fun r h'=>∃ m,Mod l m∧Hl m=h'):=by
 have hn:=H.1
 refine zN Tryz.func82 G Tryz.ntmps82 Tryz.results82 G fun fr=>?_
 repeat (first|refine zF ?_|refine zR ?_|refine zB ?_|refine zE ?_|refine zK G G G ?_)
 refine hold_count n (fun k g L=>∃ (m:List PB) (R:Hp),g=[(0,.slice a n c),(2,.int .i64 k)]∧Mod l m∧L=Hl m+fr+R) _ ⟨l,0,rfl,Mod.refl l,(yB _).symm⟩ (by repeat (first|exact zT _|refine zO G ?_)) ?_
 rintro k g L hk ⟨m,R,rfl,hm,rfl⟩
 repeat (first|refine zF ?_|refine zB ?_|refine zK G G G ?_|refine L_len G G G ?_)
 refine yG G G (pv_lss G G) (fun n1=>?_) (fun n1=>?_)
 ·have hx:k<n:=by omega
  obtain ⟨b,off,x,rfl,hg⟩:=(H.mod hm).2 k hx
  obtain ⟨cs,e,R2,h1,h2,h3⟩:=hl_split hg
  have hc:cs[off+k*1]?=some (.int .i64 x):=by rw [Nat.mul_one,← h2]; exact hg
  have hs:∀ v,cs.set (off+k*1) v=spliceL (off+k) [v] cs:=fun v=>by rw [splice_one,Nat.mul_one]
  rw [h1]
  repeat (first|refine zF ?_|refine zR ?_|refine zB ?_|refine zE ?_|refine zK G G G ?_|refine zP ?_|refine zJ G ?_|refine L_idx G G (by omega) G G ?_)
  refine L_ld G hc G G G ?_
  refine yH G G (pv_xor G G) ?_
  repeat (refine L_idx G G (by omega) G G ?_)
  refine L_st G G hc (hs _) G G G ?_
  repeat (first|refine zB ?_|refine zE ?_|refine zK G G G ?_|refine L_add G G (by omega) (by omega) G G ?_)
  obtain ⟨a1,a2,a3⟩:=h3 (off+k) [.int .i64 (IntKind.i64.wrap (BitVec.ofInt IntKind.i64.bits x ^^^ BitVec.ofInt IntKind.i64.bits 77).toNat)]
  have hm2:Mod m (splH m b (off+k) [.int .i64 (IntKind.i64.wrap (BitVec.ofInt IntKind.i64.bits x ^^^ BitVec.ofInt IntKind.i64.bits 77).toNat)]):=Mod.spl h2 a2 a3 (fun i v hi=>by
   cases i with
   | succ i=>simp at hi
   | zero =>
    simp only [List.getElem?_cons_zero,Option.some.injEq] at hi
    subst hi
    exact ⟨_,hg,.int _ _ _⟩)
  exact ⟨by omega,_,(by repeat (first|exact zT _|refine zO G ?_)),_,R,rfl,hm.trans hm2,by rw [a1]; ac_rfl⟩
 ·repeat (first|refine yD ?_|refine zE ?_|refine zI G ?_)
  exact ⟨[],Hl m,R,trivial,⟨m,hm,rfl⟩,rfl⟩
theorem spoilHWr_spec (w0:World) (l:List PB) (a:Option Addr) (n c:Nat) (H:WrH l a n) :
  Spec Tryz.prog w0 152 [.slice a n c] (Hl l) (fun r h'=>∃ m,Mod l m∧Hl m=h'):=by
 have hn:=H.1
 refine zN Tryz.func152 G Tryz.ntmps152 Tryz.results152 G fun fr=>?_
 repeat (first|refine zF ?_|refine zR ?_|refine zB ?_|refine zE ?_|refine zK G G G ?_)
 refine hold_count n (fun k g L=>∃ (m:List PB) (R:Hp),g=[(0,.slice a n c),(2,.int .i64 k)]∧Mod l m∧L=Hl m+fr+R) _ ⟨l,0,rfl,Mod.refl l,(yB _).symm⟩ (by repeat (first|exact zT _|refine zO G ?_)) ?_
 rintro k g L hk ⟨m,R,rfl,hm,rfl⟩
 repeat (first|refine zF ?_|refine zB ?_|refine zK G G G ?_|refine L_len G G G ?_)
 refine yG G G (pv_lss G G) (fun n1=>?_) (fun n1=>?_)
 ·have hx:k<n:=by omega
  have hT:=(H.mod hm).2 k hx
  obtain ⟨b,off,rfl,_⟩:=hT
  obtain ⟨b',off',e1,hT0⟩:=(H.mod hm).2 k hx
  cases e1
  obtain ⟨v0,g0,ax0,nx0,cx0,rfl,hB0⟩:=hT0 1 .bytes rfl
  obtain ⟨cs0,e0,R2,h10,h20,h30⟩:=hl_split g0
  have hc0:cs0[off+k*2+1]?=some (.slice ax0 nx0 cx0):=by rw [← h20]; exact g0
  rw [h10]
  repeat (first|refine zF ?_|refine zR ?_|refine zB ?_|refine zE ?_|refine zK G G G ?_|refine zZ G G G G G ?_|refine zP ?_|refine zJ G ?_|refine L_idx G G (by omega) G G ?_)
  skip
  refine L_ld G hc0 G G G ?_
  rw [← h10]
  refine zY G G (zQ G G G) (spoilHB_spec w0 m ax0 nx0 cx0 hB0) ?_
  rintro _ _ ⟨m2,hm2,rfl⟩
  replace hm:=hm.trans hm2
  repeat (first|refine zB ?_|refine zE ?_|refine zK G G G ?_|refine L_idx G G (by omega) G G ?_|refine L_build (vs:=[_]) (cells:=[_,_]) G G G G ?_)
  obtain ⟨b',off',e1,hT⟩:=(H.mod hm).2 k hx
  cases e1
  obtain ⟨v0,g0,x0,rfl⟩:=hT 0 .int rfl
  obtain ⟨cs,e,R2,h1,h2,h3⟩:=hl_split g0
  rw [h1]
  obtain ⟨y1,f1,z1,p1,q1,rfl,_⟩:=hT 1 .bytes rfl
  have hlast:off+k*2+1<cs.length:=by
   have:=f1
   rw [h2] at this
   exact (List.getElem?_eq_some_iff.1 this).1
  skip
  refine L_eff G G (ev_storeA (vs:=[_,_]) G G G G (by simp only [List.length_cons,List.length_nil]; omega) G) ?_
  rintro _ _ rfl
  repeat (first|refine zB ?_|refine zE ?_|refine zK G G G ?_|refine L_add G G (by omega) (by omega) G G ?_)
  obtain ⟨a1,a2,a3⟩:=h3 (off+k*2) [.int .i64 (-77),.slice none 0 0]
  have hmz:Mod m2 (splH m2 b (off+k*2) [.int .i64 (-77),.slice none 0 0]):=Mod.spl h2 a2 a3 (fun i v hi=>by
   match i,hi with
   | 0,hi=>cases hi; exact ⟨_,g0,.int _ _ _⟩
   | 1,hi=>cases hi; exact ⟨_,f1,.slice _ _ _⟩
   | i+2,hi=>simp at hi)
  exact ⟨by omega,_,(by repeat (first|exact zT _|refine zO G ?_)),_,R,rfl,hm.trans hmz,by rw [a1]; ac_rfl⟩
 ·repeat (first|refine yD ?_|refine zE ?_|refine zI G ?_)
  exact ⟨[],Hl m,R,trivial,⟨m,hm,rfl⟩,rfl⟩
theorem spoilHBlk_spec (w0:World) (l:List PB) (a:Option Addr) (n c:Nat) (H:RowH [.int,.bytes] l a n) :
  Spec Tryz.prog w0 78 [.slice a n c] (Hl l) (fun r h'=>∃ m,Mod l m∧Hl m=h'):=by
 have hn:=H.1
 refine zN Tryz.func78 G Tryz.ntmps78 Tryz.results78 G fun fr=>?_
 repeat (first|refine zF ?_|refine zR ?_|refine zB ?_|refine zE ?_|refine zK G G G ?_)
 refine hold_count n (fun k g L=>∃ (m:List PB) (R:Hp),g=[(0,.slice a n c),(2,.int .i64 k)]∧Mod l m∧L=Hl m+fr+R) _ ⟨l,0,rfl,Mod.refl l,(yB _).symm⟩ (by repeat (first|exact zT _|refine zO G ?_)) ?_
 rintro k g L hk ⟨m,R,rfl,hm,rfl⟩
 repeat (first|refine zF ?_|refine zB ?_|refine zK G G G ?_|refine L_len G G G ?_)
 refine yG G G (pv_lss G G) (fun n1=>?_) (fun n1=>?_)
 ·have hx:k<n:=by omega
  have hT:=(H.mod hm).2 k hx
  obtain ⟨b,off,rfl,_⟩:=hT
  obtain ⟨b',off',e1,hT0⟩:=(H.mod hm).2 k hx
  cases e1
  obtain ⟨v0,g0,ax0,nx0,cx0,rfl,hB0⟩:=hT0 1 .bytes rfl
  obtain ⟨cs0,e0,R2,h10,h20,h30⟩:=hl_split g0
  have hc0:cs0[off+k*2+1]?=some (.slice ax0 nx0 cx0):=by rw [← h20]; exact g0
  rw [h10]
  repeat (first|refine zF ?_|refine zR ?_|refine zB ?_|refine zE ?_|refine zK G G G ?_|refine zZ G G G G G ?_|refine zP ?_|refine zJ G ?_|refine L_idx G G (by omega) G G ?_)
  skip
  refine L_ld G hc0 G G G ?_
  rw [← h10]
  refine zY G G (zQ G G G) (spoilHB_spec w0 m ax0 nx0 cx0 hB0) ?_
  rintro _ _ ⟨m2,hm2,rfl⟩
  replace hm:=hm.trans hm2
  repeat (first|refine zB ?_|refine zE ?_|refine zK G G G ?_|refine L_idx G G (by omega) G G ?_|refine L_build (vs:=[_]) (cells:=[_,_]) G G G G ?_)
  obtain ⟨b',off',e1,hT⟩:=(H.mod hm).2 k hx
  cases e1
  obtain ⟨v0,g0,x0,rfl⟩:=hT 0 .int rfl
  obtain ⟨cs,e,R2,h1,h2,h3⟩:=hl_split g0
  rw [h1]
  obtain ⟨y1,f1,z1,p1,q1,rfl,_⟩:=hT 1 .bytes rfl
  have hlast:off+k*2+1<cs.length:=by
   have:=f1
   rw [h2] at this
   exact (List.getElem?_eq_some_iff.1 this).1
  skip
  refine L_eff G G (ev_storeA (vs:=[_,_]) G G G G (by simp only [List.length_cons,List.length_nil]; omega) G) ?_
  rintro _ _ rfl
  repeat (first|refine zB ?_|refine zE ?_|refine zK G G G ?_|refine L_add G G (by omega) (by omega) G G ?_)
  obtain ⟨a1,a2,a3⟩:=h3 (off+k*2) [.int .i64 (-77),.slice none 0 0]
  have hmz:Mod m2 (splH m2 b (off+k*2) [.int .i64 (-77),.slice none 0 0]):=Mod.spl h2 a2 a3 (fun i v hi=>by
   match i,hi with
   | 0,hi=>cases hi; exact ⟨_,g0,.int _ _ _⟩
   | 1,hi=>cases hi; exact ⟨_,f1,.slice _ _ _⟩
   | i+2,hi=>simp at hi)
  exact ⟨by omega,_,(by repeat (first|exact zT _|refine zO G ?_)),_,R,rfl,hm.trans hmz,by rw [a1]; ac_rfl⟩
 ·repeat (first|refine yD ?_|refine zE ?_|refine zI G ?_)
  exact ⟨[],Hl m,R,trivial,⟨m,hm,rfl⟩,rfl⟩
theorem spoilHKpt_spec (w0:World) (l:List PB) (a:Option Addr) (n c:Nat) (H:RowH [.int,.int,.bytes] l a n) :
  Spec Tryz.prog w0 79 [.slice a n c] (Hl l) (fun r h'=>∃ m,Mod l m∧Hl m=h'):=by
 have hn:=H.1
 refine zN Tryz.func79 G Tryz.ntmps79 Tryz.results79 G fun fr=>?_
 repeat (first|refine zF ?_|refine zR ?_|refine zB ?_|refine zE ?_|refine zK G G G ?_)
 refine hold_count n (fun k g L=>∃ (m:List PB) (R:Hp),g=[(0,.slice a n c),(2,.int .i64 k)]∧Mod l m∧L=Hl m+fr+R) _ ⟨l,0,rfl,Mod.refl l,(yB _).symm⟩ (by repeat (first|exact zT _|refine zO G ?_)) ?_
 rintro k g L hk ⟨m,R,rfl,hm,rfl⟩
 repeat (first|refine zF ?_|refine zB ?_|refine zK G G G ?_|refine L_len G G G ?_)
 refine yG G G (pv_lss G G) (fun n1=>?_) (fun n1=>?_)
 ·have hx:k<n:=by omega
  have hT:=(H.mod hm).2 k hx
  obtain ⟨b,off,rfl,_⟩:=hT
  obtain ⟨b',off',e1,hT0⟩:=(H.mod hm).2 k hx
  cases e1
  obtain ⟨v0,g0,ax0,nx0,cx0,rfl,hB0⟩:=hT0 2 .bytes rfl
  obtain ⟨cs0,e0,R2,h10,h20,h30⟩:=hl_split g0
  have hc0:cs0[off+k*3+2]?=some (.slice ax0 nx0 cx0):=by rw [← h20]; exact g0
  rw [h10]
  repeat (first|refine zF ?_|refine zR ?_|refine zB ?_|refine zE ?_|refine zK G G G ?_|refine zZ G G G G G ?_|refine zP ?_|refine zJ G ?_|refine L_idx G G (by omega) G G ?_)
  skip
  refine L_ld G hc0 G G G ?_
  rw [← h10]
  refine zY G G (zQ G G G) (spoilHB_spec w0 m ax0 nx0 cx0 hB0) ?_
  rintro _ _ ⟨m2,hm2,rfl⟩
  replace hm:=hm.trans hm2
  repeat (first|refine zB ?_|refine zE ?_|refine zK G G G ?_|refine L_idx G G (by omega) G G ?_|refine L_build (vs:=[_]) (cells:=[_,_,_]) G G G G ?_)
  obtain ⟨b',off',e1,hT⟩:=(H.mod hm).2 k hx
  cases e1
  obtain ⟨v0,g0,x0,rfl⟩:=hT 0 .int rfl
  obtain ⟨cs,e,R2,h1,h2,h3⟩:=hl_split g0
  rw [h1]
  obtain ⟨y1,f1,z1,rfl⟩:=hT 1 .int rfl
  obtain ⟨y2,f2,z2,p2,q2,rfl,_⟩:=hT 2 .bytes rfl
  have hlast:off+k*3+2<cs.length:=by
   have:=f2
   rw [h2] at this
   exact (List.getElem?_eq_some_iff.1 this).1
  skip
  refine L_eff G G (ev_storeA (vs:=[_,_,_]) G G G G (by simp only [List.length_cons,List.length_nil]; omega) G) ?_
  rintro _ _ rfl
  repeat (first|refine zB ?_|refine zE ?_|refine zK G G G ?_|refine L_add G G (by omega) (by omega) G G ?_)
  obtain ⟨a1,a2,a3⟩:=h3 (off+k*3) [.int .i64 (-77),.int .i64 0,.slice none 0 0]
  have hmz:Mod m2 (splH m2 b (off+k*3) [.int .i64 (-77),.int .i64 0,.slice none 0 0]):=Mod.spl h2 a2 a3 (fun i v hi=>by
   match i,hi with
   | 0,hi=>cases hi; exact ⟨_,g0,.int _ _ _⟩
   | 1,hi=>cases hi; exact ⟨_,f1,.int _ _ _⟩
   | 2,hi=>cases hi; exact ⟨_,f2,.slice _ _ _⟩
   | i+3,hi=>simp at hi)
  exact ⟨by omega,_,(by repeat (first|exact zT _|refine zO G ?_)),_,R,rfl,hm.trans hmz,by rw [a1]; ac_rfl⟩
 ·repeat (first|refine yD ?_|refine zE ?_|refine zI G ?_)
  exact ⟨[],Hl m,R,trivial,⟨m,hm,rfl⟩,rfl⟩
theorem spoilHOut_spec (w0:World) (l:List PB) (a:Option Addr) (n c:Nat) (H:RowH [.int,.int,.int,.bytes] l a n) :
  Spec Tryz.prog w0 83 [.slice a n c] (Hl l) (fun r h'=>∃ m,Mod l m∧Hl m=h'):=by
 have hn:=H.1
 refine zN Tryz.func83 G Tryz.ntmps83 Tryz.results83 G fun fr=>?_
 repeat (first|refine zF ?_|refine zR ?_|refine zB ?_|refine zE ?_|refine zK G G G ?_)
 refine hold_count n (fun k g L=>∃ (m:List PB) (R:Hp),g=[(0,.slice a n c),(2,.int .i64 k)]∧Mod l m∧L=Hl m+fr+R) _ ⟨l,0,rfl,Mod.refl l,(yB _).symm⟩ (by repeat (first|exact zT _|refine zO G ?_)) ?_
 rintro k g L hk ⟨m,R,rfl,hm,rfl⟩
 repeat (first|refine zF ?_|refine zB ?_|refine zK G G G ?_|refine L_len G G G ?_)
 refine yG G G (pv_lss G G) (fun n1=>?_) (fun n1=>?_)
 ·have hx:k<n:=by omega
  have hT:=(H.mod hm).2 k hx
  obtain ⟨b,off,rfl,_⟩:=hT
  obtain ⟨b',off',e1,hT0⟩:=(H.mod hm).2 k hx
  cases e1
  obtain ⟨v0,g0,ax0,nx0,cx0,rfl,hB0⟩:=hT0 3 .bytes rfl
  obtain ⟨cs0,e0,R2,h10,h20,h30⟩:=hl_split g0
  have hc0:cs0[off+k*4+3]?=some (.slice ax0 nx0 cx0):=by rw [← h20]; exact g0
  rw [h10]
  repeat (first|refine zF ?_|refine zR ?_|refine zB ?_|refine zE ?_|refine zK G G G ?_|refine zZ G G G G G ?_|refine zP ?_|refine zJ G ?_|refine L_idx G G (by omega) G G ?_)
  skip
  refine L_ld G hc0 G G G ?_
  rw [← h10]
  refine zY G G (zQ G G G) (spoilHB_spec w0 m ax0 nx0 cx0 hB0) ?_
  rintro _ _ ⟨m2,hm2,rfl⟩
  replace hm:=hm.trans hm2
  repeat (first|refine zB ?_|refine zE ?_|refine zK G G G ?_|refine L_idx G G (by omega) G G ?_|refine L_build (vs:=[_]) (cells:=[_,_,_,_]) G G G G ?_)
  obtain ⟨b',off',e1,hT⟩:=(H.mod hm).2 k hx
  cases e1
  obtain ⟨v0,g0,x0,rfl⟩:=hT 0 .int rfl
  obtain ⟨cs,e,R2,h1,h2,h3⟩:=hl_split g0
  rw [h1]
  obtain ⟨y1,f1,z1,rfl⟩:=hT 1 .int rfl
  obtain ⟨y2,f2,z2,rfl⟩:=hT 2 .int rfl
  obtain ⟨y3,f3,z3,p3,q3,rfl,_⟩:=hT 3 .bytes rfl
  have hlast:off+k*4+3<cs.length:=by
   have:=f3
   rw [h2] at this
   exact (List.getElem?_eq_some_iff.1 this).1
  skip
  refine L_eff G G (ev_storeA (vs:=[_,_,_,_]) G G G G (by simp only [List.length_cons,List.length_nil]; omega) G) ?_
  rintro _ _ rfl
  repeat (first|refine zB ?_|refine zE ?_|refine zK G G G ?_|refine L_add G G (by omega) (by omega) G G ?_)
  obtain ⟨a1,a2,a3⟩:=h3 (off+k*4) [.int .i64 (-77),.int .i64 0,.int .i64 0,.slice none 0 0]
  have hmz:Mod m2 (splH m2 b (off+k*4) [.int .i64 (-77),.int .i64 0,.int .i64 0,.slice none 0 0]):=Mod.spl h2 a2 a3 (fun i v hi=>by
   match i,hi with
   | 0,hi=>cases hi; exact ⟨_,g0,.int _ _ _⟩
   | 1,hi=>cases hi; exact ⟨_,f1,.int _ _ _⟩
   | 2,hi=>cases hi; exact ⟨_,f2,.int _ _ _⟩
   | 3,hi=>cases hi; exact ⟨_,f3,.slice _ _ _⟩
   | i+4,hi=>simp at hi)
  exact ⟨by omega,_,(by repeat (first|exact zT _|refine zO G ?_)),_,R,rfl,hm.trans hmz,by rw [a1]; ac_rfl⟩
 ·repeat (first|refine yD ?_|refine zE ?_|refine zI G ?_)
  exact ⟨[],Hl m,R,trivial,⟨m,hm,rfl⟩,rfl⟩
theorem spoilHSes_spec (w0:World) (l:List PB) (a:Option Addr) (n c:Nat) (H:RowH [.int,.int,.int,.bytes] l a n) :
  Spec Tryz.prog w0 84 [.slice a n c] (Hl l) (fun r h'=>∃ m,Mod l m∧Hl m=h'):=by
 have hn:=H.1
 refine zN Tryz.func84 G Tryz.ntmps84 Tryz.results84 G fun fr=>?_
 repeat (first|refine zF ?_|refine zR ?_|refine zB ?_|refine zE ?_|refine zK G G G ?_)
 refine hold_count n (fun k g L=>∃ (m:List PB) (R:Hp),g=[(0,.slice a n c),(2,.int .i64 k)]∧Mod l m∧L=Hl m+fr+R) _ ⟨l,0,rfl,Mod.refl l,(yB _).symm⟩ (by repeat (first|exact zT _|refine zO G ?_)) ?_
 rintro k g L hk ⟨m,R,rfl,hm,rfl⟩
 repeat (first|refine zF ?_|refine zB ?_|refine zK G G G ?_|refine L_len G G G ?_)
 refine yG G G (pv_lss G G) (fun n1=>?_) (fun n1=>?_)
 ·have hx:k<n:=by omega
  have hT:=(H.mod hm).2 k hx
  obtain ⟨b,off,rfl,_⟩:=hT
  obtain ⟨b',off',e1,hT0⟩:=(H.mod hm).2 k hx
  cases e1
  obtain ⟨v0,g0,ax0,nx0,cx0,rfl,hB0⟩:=hT0 3 .bytes rfl
  obtain ⟨cs0,e0,R2,h10,h20,h30⟩:=hl_split g0
  have hc0:cs0[off+k*4+3]?=some (.slice ax0 nx0 cx0):=by rw [← h20]; exact g0
  rw [h10]
  repeat (first|refine zF ?_|refine zR ?_|refine zB ?_|refine zE ?_|refine zK G G G ?_|refine zZ G G G G G ?_|refine zP ?_|refine zJ G ?_|refine L_idx G G (by omega) G G ?_)
  skip
  refine L_ld G hc0 G G G ?_
  rw [← h10]
  refine zY G G (zQ G G G) (spoilHB_spec w0 m ax0 nx0 cx0 hB0) ?_
  rintro _ _ ⟨m2,hm2,rfl⟩
  replace hm:=hm.trans hm2
  repeat (first|refine zB ?_|refine zE ?_|refine zK G G G ?_|refine L_idx G G (by omega) G G ?_|refine L_build (vs:=[_]) (cells:=[_,_,_,_]) G G G G ?_)
  obtain ⟨b',off',e1,hT⟩:=(H.mod hm).2 k hx
  cases e1
  obtain ⟨v0,g0,x0,rfl⟩:=hT 0 .int rfl
  obtain ⟨cs,e,R2,h1,h2,h3⟩:=hl_split g0
  rw [h1]
  obtain ⟨y1,f1,z1,rfl⟩:=hT 1 .int rfl
  obtain ⟨y2,f2,z2,rfl⟩:=hT 2 .int rfl
  obtain ⟨y3,f3,z3,p3,q3,rfl,_⟩:=hT 3 .bytes rfl
  have hlast:off+k*4+3<cs.length:=by
   have:=f3
   rw [h2] at this
   exact (List.getElem?_eq_some_iff.1 this).1
  skip
  refine L_eff G G (ev_storeA (vs:=[_,_,_,_]) G G G G (by simp only [List.length_cons,List.length_nil]; omega) G) ?_
  rintro _ _ rfl
  repeat (first|refine zB ?_|refine zE ?_|refine zK G G G ?_|refine L_add G G (by omega) (by omega) G G ?_)
  obtain ⟨a1,a2,a3⟩:=h3 (off+k*4) [.int .i64 (-77),.int .i64 0,.int .i64 0,.slice none 0 0]
  have hmz:Mod m2 (splH m2 b (off+k*4) [.int .i64 (-77),.int .i64 0,.int .i64 0,.slice none 0 0]):=Mod.spl h2 a2 a3 (fun i v hi=>by
   match i,hi with
   | 0,hi=>cases hi; exact ⟨_,g0,.int _ _ _⟩
   | 1,hi=>cases hi; exact ⟨_,f1,.int _ _ _⟩
   | 2,hi=>cases hi; exact ⟨_,f2,.int _ _ _⟩
   | 3,hi=>cases hi; exact ⟨_,f3,.slice _ _ _⟩
   | i+4,hi=>simp at hi)
  exact ⟨by omega,_,(by repeat (first|exact zT _|refine zO G ?_)),_,R,rfl,hm.trans hmz,by rw [a1]; ac_rfl⟩
 ·repeat (first|refine yD ?_|refine zE ?_|refine zI G ?_)
  exact ⟨[],Hl m,R,trivial,⟨m,hm,rfl⟩,rfl⟩
theorem spoilHPrp_spec (w0:World) (l:List PB) (a:Option Addr) (n c:Nat) (H:RowH [.int,.int,.int,.int,.int,.ints,.writes] l a n) :
  Spec Tryz.prog w0 81 [.slice a n c] (Hl l) (fun r h'=>∃ m,Mod l m∧Hl m=h'):=by
 have hn:=H.1
 refine zN Tryz.func81 G Tryz.ntmps81 Tryz.results81 G fun fr=>?_
 repeat (first|refine zF ?_|refine zR ?_|refine zB ?_|refine zE ?_|refine zK G G G ?_)
 refine hold_count n (fun k g L=>∃ (m:List PB) (R:Hp),g=[(0,.slice a n c),(2,.int .i64 k)]∧Mod l m∧L=Hl m+fr+R) _ ⟨l,0,rfl,Mod.refl l,(yB _).symm⟩ (by repeat (first|exact zT _|refine zO G ?_)) ?_
 rintro k g L hk ⟨m,R,rfl,hm,rfl⟩
 repeat (first|refine zF ?_|refine zB ?_|refine zK G G G ?_|refine L_len G G G ?_)
 refine yG G G (pv_lss G G) (fun n1=>?_) (fun n1=>?_)
 ·have hx:k<n:=by omega
  have hT:=(H.mod hm).2 k hx
  obtain ⟨b,off,rfl,_⟩:=hT
  obtain ⟨b',off',e1,hT0⟩:=(H.mod hm).2 k hx
  cases e1
  obtain ⟨v0,g0,ax0,nx0,cx0,rfl,hB0⟩:=hT0 5 .ints rfl
  obtain ⟨cs0,e0,R2,h10,h20,h30⟩:=hl_split g0
  have hc0:cs0[off+k*7+5]?=some (.slice ax0 nx0 cx0):=by rw [← h20]; exact g0
  rw [h10]
  repeat (first|refine zF ?_|refine zR ?_|refine zB ?_|refine zE ?_|refine zK G G G ?_|refine zZ G G G G G ?_|refine zP ?_|refine zJ G ?_|refine L_idx G G (by omega) G G ?_)
  skip
  refine L_ld G hc0 G G G ?_
  rw [← h10]
  refine zY G G (zQ G G G) (spoilHI_spec w0 m ax0 nx0 cx0 hB0) ?_
  rintro _ _ ⟨m2,hm2,rfl⟩
  replace hm:=hm.trans hm2
  repeat (first|refine zF ?_|refine zB ?_|refine zE ?_|refine zK G G G ?_|refine zZ G G G G G ?_|refine L_idx G G (by omega) G G ?_)
  obtain ⟨b',off',e1,hT1⟩:=(H.mod hm).2 k hx
  cases e1
  obtain ⟨v1,g1,ax1,nx1,cx1,rfl,hB1⟩:=hT1 6 .writes rfl
  obtain ⟨cs1,e1,R3,h11,h21,h31⟩:=hl_split g1
  have hc1:cs1[off+k*7+6]?=some (.slice ax1 nx1 cx1):=by rw [← h21]; exact g1
  rw [h11]
  skip
  skip
  refine L_ld G hc1 G G G ?_
  rw [← h11]
  refine zY G G (zQ G G G) (spoilHWr_spec w0 m2 ax1 nx1 cx1 hB1) ?_
  rintro _ _ ⟨m3,hm3,rfl⟩
  replace hm:=hm.trans hm3
  repeat (first|refine zB ?_|refine zE ?_|refine zK G G G ?_|refine L_idx G G (by omega) G G ?_|refine L_build (vs:=[_]) (cells:=[_,_,_,_,_,_,_]) G G G G ?_)
  obtain ⟨b',off',e1,hT⟩:=(H.mod hm).2 k hx
  cases e1
  obtain ⟨v0,g0,x0,rfl⟩:=hT 0 .int rfl
  obtain ⟨cs,e,R2,h1,h2,h3⟩:=hl_split g0
  rw [h1]
  obtain ⟨y1,f1,z1,rfl⟩:=hT 1 .int rfl
  obtain ⟨y2,f2,z2,rfl⟩:=hT 2 .int rfl
  obtain ⟨y3,f3,z3,rfl⟩:=hT 3 .int rfl
  obtain ⟨y4,f4,z4,rfl⟩:=hT 4 .int rfl
  obtain ⟨y5,f5,z5,p5,q5,rfl,_⟩:=hT 5 .ints rfl
  obtain ⟨y6,f6,z6,p6,q6,rfl,_⟩:=hT 6 .writes rfl
  have hlast:off+k*7+6<cs.length:=by
   have:=f6
   rw [h2] at this
   exact (List.getElem?_eq_some_iff.1 this).1
  skip
  refine L_eff G G (ev_storeA (vs:=[_,_,_,_,_,_,_]) G G G G (by simp only [List.length_cons,List.length_nil]; omega) G) ?_
  rintro _ _ rfl
  repeat (first|refine zB ?_|refine zE ?_|refine zK G G G ?_|refine L_add G G (by omega) (by omega) G G ?_)
  obtain ⟨a1,a2,a3⟩:=h3 (off+k*7) [.int .i64 (-77),.int .i64 0,.int .i64 0,.int .i64 0,.int .i64 0,.slice none 0 0,.slice none 0 0]
  have hmz:Mod m3 (splH m3 b (off+k*7) [.int .i64 (-77),.int .i64 0,.int .i64 0,.int .i64 0,.int .i64 0,.slice none 0 0,.slice none 0 0]):=Mod.spl h2 a2 a3 (fun i v hi=>by
   match i,hi with
   | 0,hi=>cases hi; exact ⟨_,g0,.int _ _ _⟩
   | 1,hi=>cases hi; exact ⟨_,f1,.int _ _ _⟩
   | 2,hi=>cases hi; exact ⟨_,f2,.int _ _ _⟩
   | 3,hi=>cases hi; exact ⟨_,f3,.int _ _ _⟩
   | 4,hi=>cases hi; exact ⟨_,f4,.int _ _ _⟩
   | 5,hi=>cases hi; exact ⟨_,f5,.slice _ _ _⟩
   | 6,hi=>cases hi; exact ⟨_,f6,.slice _ _ _⟩
   | i+7,hi=>simp at hi)
  exact ⟨by omega,_,(by repeat (first|exact zT _|refine zO G ?_)),_,R,rfl,hm.trans hmz,by rw [a1]; ac_rfl⟩
 ·repeat (first|refine yD ?_|refine zE ?_|refine zI G ?_)
  exact ⟨[],Hl m,R,trivial,⟨m,hm,rfl⟩,rfl⟩
theorem spoilHLk_spec (w0:World) (l:List PB) (a:Option Addr) (n c:Nat) (H:RowH [.int,.int,.int,.bool] l a n) :
  Spec Tryz.prog w0 80 [.slice a n c] (Hl l) (fun r h'=>∃ m,Mod l m∧Hl m=h'):=by
 have hn:=H.1
 refine zN Tryz.func80 G Tryz.ntmps80 Tryz.results80 G fun fr=>?_
 repeat (first|refine zF ?_|refine zR ?_|refine zB ?_|refine zE ?_|refine zK G G G ?_)
 refine hold_count n (fun k g L=>∃ (m:List PB) (R:Hp),g=[(0,.slice a n c),(2,.int .i64 k)]∧Mod l m∧L=Hl m+fr+R) _ ⟨l,0,rfl,Mod.refl l,(yB _).symm⟩ (by repeat (first|exact zT _|refine zO G ?_)) ?_
 rintro k g L hk ⟨m,R,rfl,hm,rfl⟩
 repeat (first|refine zF ?_|refine zB ?_|refine zK G G G ?_|refine L_len G G G ?_)
 refine yG G G (pv_lss G G) (fun n1=>?_) (fun n1=>?_)
 ·have hx:k<n:=by omega
  have hT:=(H.mod hm).2 k hx
  obtain ⟨b,off,rfl,_⟩:=hT
  obtain ⟨b',off',e1,hT⟩:=(H.mod hm).2 k hx
  cases e1
  obtain ⟨v0,g0,x0,rfl⟩:=hT 0 .int rfl
  obtain ⟨cs,e,R2,h1,h2,h3⟩:=hl_split g0
  have hc:cs[off+k*4+0]?=some (.int .i64 x0):=by rw [← h2]; exact g0
  rw [h1]
  repeat (first|refine zF ?_|refine zR ?_|refine zB ?_|refine zE ?_|refine zK G G G ?_|refine zZ G G G G G ?_|refine zP ?_|refine zJ G ?_|refine L_idx G G (by omega) G G ?_)
  skip
  refine L_ld G hc G G G ?_
  refine yH G G (pv_xor G G) ?_
  repeat (first|refine L_idx G G (by omega) G G ?_|refine L_build (vs:=[_]) (cells:=[_,_,_,_]) G G G G ?_)
  obtain ⟨y1,f1,z1,rfl⟩:=hT 1 .int rfl
  obtain ⟨y2,f2,z2,rfl⟩:=hT 2 .int rfl
  obtain ⟨y3,f3,z3,rfl⟩:=hT 3 .bool rfl
  have hlast:off+k*4+3<cs.length:=by
   have:=f3
   rw [h2] at this
   exact (List.getElem?_eq_some_iff.1 this).1
  skip
  refine L_eff G G (ev_storeA (vs:=[_,_,_,_]) G G G G (by simp only [List.length_cons,List.length_nil]; omega) G) ?_
  rintro _ _ rfl
  repeat (first|refine zB ?_|refine zE ?_|refine zK G G G ?_|refine L_add G G (by omega) (by omega) G G ?_)
  obtain ⟨a1,a2,a3⟩:=h3 (off+k*4) [.int .i64 (IntKind.i64.wrap (BitVec.ofInt IntKind.i64.bits x0 ^^^ BitVec.ofInt IntKind.i64.bits 77).toNat),.int .i64 0,.int .i64 0,.bool false]
  have hmz:Mod m (splH m b (off+k*4) [.int .i64 (IntKind.i64.wrap (BitVec.ofInt IntKind.i64.bits x0 ^^^ BitVec.ofInt IntKind.i64.bits 77).toNat),.int .i64 0,.int .i64 0,.bool false]):=Mod.spl h2 a2 a3 (fun i v hi=>by
   match i,hi with
   | 0,hi=>cases hi; exact ⟨_,g0,.int _ _ _⟩
   | 1,hi=>cases hi; exact ⟨_,f1,.int _ _ _⟩
   | 2,hi=>cases hi; exact ⟨_,f2,.int _ _ _⟩
   | 3,hi=>cases hi; exact ⟨_,f3,.bool _ _⟩
   | i+4,hi=>simp at hi)
  exact ⟨by omega,_,(by repeat (first|exact zT _|refine zO G ?_)),_,R,rfl,hm.trans hmz,by rw [a1]; ac_rfl⟩
 ·repeat (first|refine yD ?_|refine zE ?_|refine zI G ?_)
  exact ⟨[],Hl m,R,trivial,⟨m,hm,rfl⟩,rfl⟩
structure ShdH (l:List PB) (e:List Value):Prop where
 ex:∃ x0 x1 x2 a1 n1 c1 a2 n2 c2 a3 n3 c3 a4 n4 c4 a5 n5 c5 a6 n6 c6 a7 n7 c7,e=[x0,x1,x2,.slice a1 n1 c1,.slice a2 n2 c2,.slice a3 n3 c3,.slice a4 n4 c4,.slice a5 n5 c5,.slice a6 n6 c6,.slice a7 n7 c7]∧x0.oneCell'=true∧x1.oneCell'=true∧x2.oneCell'=true ∧
  RowH [.int,.bytes] l a1 n1∧RowH [.int,.int,.bytes] l a2 n2∧RowH [.int,.int,.int,.bool] l a3 n3∧RowH [.int,.int,.int,.int,.int,.ints,.writes] l a4 n4∧IntH l a5 n5∧RowH [.int,.int,.int,.bytes] l a6 n6∧RowH [.int,.int,.int,.bytes] l a7 n7
theorem spoilShd_spec (w0:World) (l:List PB) (s:Shd) (e:List Value) (X:Hp) (hs:RdShd w0 X s e) (H:ShdH l e) :
  Spec Tryz.prog w0 16 [.agg e.toArray] (Hl l) (fun r h'=>∃ m,Mod l m∧Hl m=h'):=by
 obtain ⟨p1,q1,p2,q2,p3,q3,p4,q4,p5,q5,p6,q6,p7,q7,rfl,_⟩:=hs
 obtain ⟨x0,x1,x2,a1,n1,c1,a2,n2,c2,a3,n3,c3,a4,n4,c4,a5,n5,c5,a6,n6,c6,a7,n7,c7,he,_,_,_,H1,H2,H3,H4,H5,H6,H7⟩:=H
 simp only [cellsS,List.cons.injEq,Value.slice.injEq,and_true] at he
 obtain ⟨rfl,rfl,rfl,⟨rfl,rfl,rfl⟩,⟨rfl,rfl,rfl⟩,⟨rfl,rfl,rfl⟩,⟨rfl,rfl,rfl⟩,⟨rfl,rfl,rfl⟩,⟨rfl,rfl,rfl⟩,⟨rfl,rfl,rfl⟩⟩:=he
 refine zN Tryz.func16 G Tryz.ntmps16 Tryz.results16 G fun fr=>?_
 repeat (first|refine zF ?_|refine zB ?_|refine zE ?_|refine zZ G G G G G ?_|refine L_ld G G G G G ?_|refine L_box G (c:=[_,_,_,_,_,_,_,_,_,_]) G G G (fun _=>?_))
 refine zY G G (zQ G G G) (spoilHBlk_spec w0 l _ _ _ (H1.mod (Mod.refl l))) ?_
 rintro _ _ ⟨l1,hq1,rfl⟩
 have hm:Mod l l1:=hq1
 repeat (first|refine zF ?_|refine zB ?_|refine zE ?_|refine zZ G G G G G ?_|refine L_ld G G G G G ?_)
 refine zY G G (zQ G G G) (spoilHKpt_spec w0 l1 _ _ _ (H2.mod hm)) ?_
 rintro _ _ ⟨l2,hq2,rfl⟩
 replace hm:=hm.trans hq2
 repeat (first|refine zF ?_|refine zB ?_|refine zE ?_|refine zZ G G G G G ?_|refine L_ld G G G G G ?_)
 refine zY G G (zQ G G G) (spoilHLk_spec w0 l2 _ _ _ (H3.mod hm)) ?_
 rintro _ _ ⟨l3,hq3,rfl⟩
 replace hm:=hm.trans hq3
 repeat (first|refine zF ?_|refine zB ?_|refine zE ?_|refine zZ G G G G G ?_|refine L_ld G G G G G ?_)
 refine zY G G (zQ G G G) (spoilHPrp_spec w0 l3 _ _ _ (H4.mod hm)) ?_
 rintro _ _ ⟨l4,hq4,rfl⟩
 replace hm:=hm.trans hq4
 repeat (first|refine zF ?_|refine zB ?_|refine zE ?_|refine zZ G G G G G ?_|refine L_ld G G G G G ?_)
 refine zY G G (zQ G G G) (spoilHI_spec w0 l4 _ _ _ (H5.mod hm)) ?_
 rintro _ _ ⟨l5,hq5,rfl⟩
 replace hm:=hm.trans hq5
 repeat (first|refine zF ?_|refine zB ?_|refine zE ?_|refine zZ G G G G G ?_|refine L_ld G G G G G ?_)
 refine zY G G (zQ G G G) (spoilHOut_spec w0 l5 _ _ _ (H6.mod hm)) ?_
 rintro _ _ ⟨l6,hq6,rfl⟩
 replace hm:=hm.trans hq6
 repeat (first|refine zB ?_|refine zE ?_|refine zZ G G G G G ?_|refine L_ld G G G G G ?_)
 refine zY G G (zQ G G G) (spoilHSes_spec w0 l6 _ _ _ (H7.mod hm)) ?_
 rintro _ _ ⟨l7,hq7,rfl⟩
 replace hm:=hm.trans hq7
 repeat (refine zE ?_)
 exact ⟨[],Hl l7,_,trivial,⟨l7,hm,rfl⟩,yK.out⟩
end Sl
end Go.Proofs.YtpkealohodeifaaGreat
namespace Go.Proofs.YtpkealohodeifaaGreat
open Go Go.RowKit
namespace Sl
set_option maxRecDepth 4000
theorem foldB_inj :∀ (n:Nat) (l l':List Byt),l.length=n→l'.length=n→foldB l=foldB l'→l=l'
 | 0,l,l',h,h',_=>by rw [List.eq_nil_of_length_eq_zero h,List.eq_nil_of_length_eq_zero h']
 | n+1,l,l',h,h',e=>by
  rcases List.eq_nil_or_concat l with rfl|⟨m,x,rfl⟩
  ·simp at h
  rcases List.eq_nil_or_concat l' with rfl|⟨m',x',rfl⟩
  ·simp at h'
  rw [List.concat_eq_append] at *
  rw [List.concat_eq_append] at *
  rw [List.length_append,List.length_singleton] at h h'
  rw [foldB_snoc,foldB_snoc] at e
  have hx:=x.isLt
  have hx':=x'.isLt
  have e1:foldB m=foldB m':=by omega
  have e2:x.val=x'.val:=by omega
  rw [foldB_inj n m m' (by omega) (by omega) e1,Fin.ext e2]
theorem be8_dec8 {l:List Byt} (h:l.length=8):be8 (dec8 l)=l:=by
 refine foldB_inj 8 _ _ (be8_length _) h ?_
 have h1:=foldB_take (dec8 l) 8 (Nat.le_refl _)
 rw [List.take_of_length_le (by rw [be8_length]; omega)] at h1
 simp only [Nat.sub_self,Nat.mul_zero,Int.pow_zero,Int.ediv_one] at h1
 have h2:=foldB_lt l
 rw [h,show (256:Nat) ^ 8=18446744073709551616 by decide] at h2
 have h3:dec8 l % 18446744073709551616=(foldB l:Int):=by
  unfold dec8
  rw [i64_wrap]
  split<;>omega
 rw [h3] at h1
 omega
theorem ok_int {s:RS} (h:(intS s).bad=false):s.bad=false∧s.left=be8 (intV s)++(intS s).left:=by
 unfold intS takeS at h
 split at h
 ·rename_i ht
  have hk:=ht
  simp only [takeOk,Bool.and_eq_true,Bool.not_eq_true',decide_eq_true_eq] at hk
  have hv:takeV s 8=s.left.take 8:=by unfold takeV; rw [if_pos ht]; rfl
  refine ⟨hk.1,?_⟩
  unfold intV intS takeS
  rw [if_pos ht,if_pos ht,hv,be8_dec8 (by rw [List.length_take]; omega)]
  exact (List.take_append_drop 8 s.left).symm
 ·cases h
theorem ok_take {s:RS} {n:Int} (h:(takeS s n).bad=false):s.bad=false∧0≤n∧s.left=takeV s n++(takeS s n).left∧((takeV s n).length:Int)=n:=by
 unfold takeS at h
 split at h
 ·rename_i ht
  have hk:=ht
  simp only [takeOk,Bool.and_eq_true,Bool.not_eq_true',decide_eq_true_eq] at hk
  unfold takeV takeS
  rw [if_pos ht,if_pos ht]
  refine ⟨hk.1,hk.2.1,(List.take_append_drop _ _).symm,?_⟩
  rw [List.length_take]; omega
 ·cases h
theorem ok_blob {s:RS} (h:(blobS s).bad=false):s.bad=false∧s.left=blob (blobV s)++(blobS s).left:=by
 obtain ⟨h1,h2,h3,h4⟩:=ok_take (s:=intS s) (n:=intV s) h
 obtain ⟨h5,h6⟩:=ok_int h1
 refine ⟨h5,?_⟩
 have e:((blobV s).length:Int)=intV s:=h4
 unfold blob
 rw [e,List.append_assoc,h6,h3]
 rfl
def OkOne {α:Type} (one:St2→α × St2) (enc:α→List Bt):Prop:=∀ s,(one s).2.1.bad=false→(one s).2.2=false→s.1.bad=false∧s.2=false∧s.1.left=enc (one s).1++(one s).2.1.left
theorem ok_many {α:Type} {one:St2→α × St2} {enc:α→List Bt} (h:OkOne one enc):∀ k s,(manyS one k s).2.1.bad=false→(manyS one k s).2.2=false→s.1.bad=false∧s.2=false∧s.1.left=((manyS one k s).1.map enc).flatten++(manyS one k s).2.1.left
 | 0,s,h1,h2=>⟨h1,h2,rfl⟩
 | k+1,s,h1,h2=>by
  obtain ⟨a1,a2,a3⟩:=h (manyS one k s).2 h1 h2
  obtain ⟨b1,b2,b3⟩:=ok_many h k s a1 a2
  refine ⟨b1,b2,?_⟩
  show _=(((manyS one k s).1++[(one (manyS one k s).2).1]).map enc).flatten++(one (manyS one k s).2).2.1.left
  rw [b3,a3,List.map_append,List.flatten_append,List.append_assoc]
  simp
theorem ok_list {α:Type} {one:St2→α × St2} {enc:α→List Bt} (h:OkOne one enc) (least:Nat):OkOne (listV one least) (encL' enc):=by
 intro s h1 h2
 unfold listV at h1 h2 ⊢
 split at h1
 ·rename_i hc
  rw [if_pos hc] at h2
  rw [if_pos hc]
  obtain ⟨a1,a2,a3⟩:=ok_many h _ _ h1 h2
  obtain ⟨b1,b2⟩:=ok_int (s:=s.1) a1
  refine ⟨b1,a2,?_⟩
  unfold encL'
  rw [manyS_length,Int.toNat_of_nonneg hc.1,List.append_assoc,← a3]
  exact b2
 ·cases h1
theorem ok_oneBlk :OkOne oneBlk encBlk:=by
 intro s h1 h2
 obtain ⟨a1,a2⟩:=ok_blob (s:=intS s.1) h1
 obtain ⟨b1,b2⟩:=ok_int a1
 exact ⟨b1,h2,by rw [b2,a2]; simp only [encBlk,oneBlk,List.append_assoc]⟩
theorem ok_oneWr :OkOne oneWr encWr:=by
 intro s h1 h2
 obtain ⟨a1,a2⟩:=ok_blob (s:=intS s.1) h1
 obtain ⟨b1,b2⟩:=ok_int a1
 exact ⟨b1,h2,by rw [b2,a2]; simp only [encWr,oneWr,List.append_assoc]⟩
theorem ok_oneKpt :OkOne oneKpt encKpt:=by
 intro s h1 h2
 obtain ⟨a1,a2⟩:=ok_blob (s:=intS (intS s.1)) h1
 obtain ⟨b1,b2⟩:=ok_int a1
 obtain ⟨c1,c2⟩:=ok_int b1
 exact ⟨c1,h2,by rw [c2,b2,a2]; simp only [encKpt,oneKpt,List.append_assoc]⟩
theorem ok_oneOut :OkOne oneOut encOut:=by
 intro s h1 h2
 obtain ⟨a1,a2⟩:=ok_blob (s:=intS (intS (intS s.1))) h1
 obtain ⟨b1,b2⟩:=ok_int a1
 obtain ⟨c1,c2⟩:=ok_int b1
 obtain ⟨d1,d2⟩:=ok_int c1
 exact ⟨d1,h2,by rw [d2,c2,b2,a2]; simp only [encOut,oneOut,List.append_assoc]⟩
theorem ok_oneSes :OkOne oneSes encSes:=by
 intro s h1 h2
 obtain ⟨a1,a2⟩:=ok_blob (s:=intS (intS (intS s.1))) h1
 obtain ⟨b1,b2⟩:=ok_int a1
 obtain ⟨c1,c2⟩:=ok_int b1
 obtain ⟨d1,d2⟩:=ok_int c1
 exact ⟨d1,h2,by rw [d2,c2,b2,a2]; simp only [encSes,oneSes,List.append_assoc]⟩
theorem ok_oneLk :OkOne oneLk encLk:=by
 intro s h1 h2
 have h3:(s.2||oddF (intV (intS (intS (intS s.1)))))=false:=h2
 rw [Bool.or_eq_false_iff] at h3
 obtain ⟨h4,h5⟩:=h3
 obtain ⟨a1,a2⟩:=ok_int (s:=intS (intS (intS s.1))) h1
 obtain ⟨b1,b2⟩:=ok_int a1
 obtain ⟨c1,c2⟩:=ok_int b1
 obtain ⟨d1,d2⟩:=ok_int c1
 have hb:bit (decide (intV (intS (intS (intS s.1)))=1))=intV (intS (intS (intS s.1))):=by
  have h6:intV (intS (intS (intS s.1)))=0∨intV (intS (intS (intS s.1)))=1:=by
   unfold oddF at h5
   have:=of_decide_eq_false h5
   omega
  rcases h6 with h6|h6<;>rw [h6]<;>rfl
 refine ⟨d1,h4,?_⟩
 rw [d2,c2,b2,a2]
 simp only [encLk,oneLk,hb,List.append_assoc]
theorem ok_ints {s:RS} (h:(intsS s).bad=false):s.bad=false∧s.left=encInts (intsV s)++(intsS s).left:=by
 unfold intsS at h
 split at h
 ·rename_i hc
  have hk:=hc
  simp only [intsOk,Bool.and_eq_true,Bool.not_eq_true',decide_eq_true_eq] at hk
  have key:∀ k (t:RS),(many (fun s:RS=>(intV s,intS s)) k t).2.bad=false→t.bad=false∧t.left=((many (fun s:RS=>(intV s,intS s)) k t).1.map be8).flatten++(many (fun s:RS=>(intV s,intS s)) k t).2.left:=by
   intro k
   induction k with
   | zero=>intro t ht; exact ⟨ht,rfl⟩
   | succ k ih =>
    intro t ht
    obtain ⟨a1,a2⟩:=ok_int (s:=(many (fun s:RS=>(intV s,intS s)) k t).2) ht
    obtain ⟨b1,b2⟩:=ih t a1
    refine ⟨b1,?_⟩
    show _=(((many (fun s:RS=>(intV s,intS s)) k t).1++[intV (many (fun s:RS=>(intV s,intS s)) k t).2]).map be8).flatten++(intS (many (fun s:RS=>(intV s,intS s)) k t).2).left
    rw [b2,a2,List.map_append,List.flatten_append,List.append_assoc]
    simp
  obtain ⟨a1,a2⟩:=key _ _ h
  obtain ⟨b1,b2⟩:=ok_int (s:=s) a1
  refine ⟨b1,?_⟩
  have e1:intsV s=(many (fun s=>(intV s,intS s)) (intV s).toNat (intS s)).1:=by unfold intsV; rw [if_pos hc]
  have e2:intsS s=(many (fun s=>(intV s,intS s)) (intV s).toNat (intS s)).2:=by unfold intsS; rw [if_pos hc]
  unfold encInts
  rw [e1,e2,many_length,Int.toNat_of_nonneg hk.2.1,List.append_assoc,← a2]
  exact b2
 ·cases h
theorem ok_onePrp :OkOne onePrp encPrp:=by
 intro s h1 h2
 obtain ⟨z1,z2,z3⟩:=ok_list ok_oneWr 16 (intsS (s5 s.1),s.2) h1 h2
 obtain ⟨y1,y2⟩:=ok_ints z1
 obtain ⟨a1,a2⟩:=ok_int (s:=intS (intS (intS (intS s.1)))) y1
 obtain ⟨b1,b2⟩:=ok_int a1
 obtain ⟨c1,c2⟩:=ok_int b1
 obtain ⟨d1,d2⟩:=ok_int c1
 obtain ⟨e1,e2⟩:=ok_int d1
 refine ⟨e1,z2,?_⟩
 have y3:(intS (intS (intS (intS (intS s.1))))).left=encInts (intsV (s5 s.1))++(intsS (s5 s.1)).left:=y2
 have z4:(intsS (s5 s.1)).left=encL' encWr (listV oneWr 16 (intsS (s5 s.1),s.2)).1++(listV oneWr 16 (intsS (s5 s.1),s.2)).2.1.left:=z3
 rw [e2,d2,c2,b2,a2,y3,z4]
 simp only [encPrp,onePrp,List.append_assoc]
theorem getF_back {bs:List Bt} (h:(getF bs).2=0):encShd (getF bs).1=bs:=by
 unfold getF at h ⊢
 split at h
 ·simp at h
 rename_i hn
 rw [if_neg hn]
 have hx:(gX bs).2.2=false:=by
  cases hb:(gX bs).2.2
  ·rfl
  ·exact absurd (.inl hb) hn
 have he:endV (gX bs).2.1=0:=Classical.byContradiction fun h=>hn (.inr h)
 have hbad:(gX bs).2.1.bad=false:=by
  cases hb:(gX bs).2.1.bad
  ·rfl
  ·unfold endV at he; rw [hb] at he; simp at he
 have hleft:(gX bs).2.1.left=[]:=by
  unfold endV at he
  rw [hbad,if_neg (by simp)] at he
  split at he
  ·assumption
  ·simp at he
 obtain ⟨a1,a2,a3⟩:=ok_list ok_oneSes 32 (gO bs).2 hbad hx
 obtain ⟨b1,b2,b3⟩:=ok_list ok_oneOut 32 (intsS (gP bs).2.1,(gP bs).2.2) a1 a2
 obtain ⟨c1,c2⟩:=ok_ints b1
 obtain ⟨d1,d2,d3⟩:=ok_list ok_onePrp 56 (gL bs).2 c1 b2
 obtain ⟨e1,e2,e3⟩:=ok_list ok_oneLk 32 ((gK bs).2.1,false) d1 d2
 have ek:(gK bs).2.2=false:=by show (listV oneKpt 24 _).2.2=false; rw [listV_odd (fun s=>rfl)]
 have eb:(gB bs).2.2=false:=by show (listV oneBlk 16 _).2.2=false; rw [listV_odd (fun s=>rfl)]
 obtain ⟨f1,f2,f3⟩:=ok_list ok_oneKpt 24 ((gB bs).2.1,false) e1 ek
 obtain ⟨g1,g2,g3'⟩:=ok_list ok_oneBlk 16 (g3 bs,false) f1 eb
 obtain ⟨i1,i2⟩:=ok_int (s:=intS (intS ⟨bs,false⟩)) g1
 obtain ⟨j1,j2⟩:=ok_int i1
 obtain ⟨k1,k2⟩:=ok_int j1
 have k3:bs=be8 (intV ⟨bs,false⟩)++(intS ⟨bs,false⟩).left:=k2
 have g4:(intS (intS (intS ⟨bs,false⟩))).left=encL' encBlk (gB bs).1++(gB bs).2.1.left:=g3'
 have f4:(gB bs).2.1.left=encL' encKpt (gK bs).1++(gK bs).2.1.left:=f3
 have e4:(gK bs).2.1.left=encL' encLk (gL bs).1++(gL bs).2.1.left:=e3
 have d4:(gL bs).2.1.left=encL' encPrp (gP bs).1++(gP bs).2.1.left:=d3
 have b4:(intsS (gP bs).2.1).left=encL' encOut (gO bs).1++(gO bs).2.1.left:=b3
 have a4:(gO bs).2.1.left=encL' encSes (gX bs).1++(gX bs).2.1.left:=a3
 have all:bs=encShd (getS bs):=by
  have:=k3
  rw [j2,i2,g4,f4,e4,d4,c2,b4,a4,hleft] at this
  rw [List.append_nil] at this
  unfold encShd getS
  simp only [List.append_assoc]
  exact this
 exact all.symm
end Sl
end Go.Proofs.YtpkealohodeifaaGreat
namespace Go.Proofs.YtpkealohodeifaaGreat
open Go Go.RowKit
namespace Sl
set_option maxHeartbeats 16000000
set_option maxRecDepth 4000
set_option synthInstance.maxHeartbeats 400000
set_option synthInstance.maxSize 100000
attribute [local irreducible] Hold HoldL HoldW
def bareW (w:World):World:={ w with heap:=#[] }
def oldL (w:World):List (Nat × Obj):=(List.range w.heap.size).filterMap fun k=>(w.heap[k]?).map fun o=>(k,o)
def oldH (w:World):Hp:=Hp.mk (oldL w)
theorem mem_oldL {w:World} {p:Nat × Obj}:p∈oldL w↔p.1<w.heap.size∧w.heap[p.1]?=some p.2:=by
 unfold oldL
 rw [List.mem_filterMap]
 constructor
 ·rintro ⟨k,hk,e⟩
  rw [List.mem_range] at hk
  cases h:w.heap[k]? with
  | none=>rw [h] at e; cases e
  | some o =>
   rw [h] at e
   simp only [Option.map_some,Option.some.injEq] at e
   subst e
   exact ⟨hk,h⟩
 ·rintro ⟨h1,h2⟩
  exact ⟨p.1,List.mem_range.2 h1,by rw [h2]; rfl⟩
theorem oldL_nodup (w:World):((oldL w).map (·.1)).Nodup:=by
 have e:(oldL w).map (·.1)=List.range w.heap.size:=by
  unfold oldL
  have:∀ l:List Nat,(∀ k∈l,k<w.heap.size)→(l.filterMap fun k=>(w.heap[k]?).map fun o=>(k,o)).map (·.1)=l:=by
   intro l
   induction l with
   | nil=>intro _; rfl
   | cons k l ih =>
    intro h
    have hk:k<w.heap.size:=h k (by simp)
    rw [List.filterMap_cons,Array.getElem?_eq_getElem hk]
    simp only [Option.map_some,List.map_cons]
    rw [ih (fun x hx=>h x (by simp [hx]))]
  exact this _ (fun k hk=>List.mem_range.1 hk)
 rw [e]; exact List.nodup_range
theorem Spec.bare {P:Program} {w0:World} {f:FuncId} {args:List Value} (h:Spec P (bareW w0) f args (oldH w0) (fun r h'=>r=.bool true∧oldH w0=h')):Spec P w0 f args 0 (fun r h'=>r=.bool true∧0=h'):=by
 intro w fr hw
 have hb:=hw.below
 have hst:St (bareW w0) w (oldH w0+fr):=by
  refine ⟨⟨hb.os,hb.tape,hb.output,Nat.zero_le _,fun k hk=>absurd hk (Nat.not_lt_zero k)⟩,?_⟩
  have hs:=hw.sat
  rw [hzero_add] at hs
  revert hs
  induction fr using Hp.ind with
  | h l =>
   intro hs
   obtain ⟨n1,n2⟩:=sat_mk.1 hs
   refine sat_mk.2 ⟨?_,fun p hp=>⟨Nat.zero_le _,?_⟩⟩
   ·rw [List.map_append,List.nodup_append]
    refine ⟨oldL_nodup w0,n1,fun a ha b hb' e=>?_⟩
    subst e
    obtain ⟨p,hp,rfl⟩:=List.mem_map.1 ha
    obtain ⟨q,hq,e2⟩:=List.mem_map.1 hb'
    have h1:=(mem_oldL.1 hp).1
    have h2:=(n2 q hq).1
    omega
   ·rcases List.mem_append.1 hp with hp|hp
    ·obtain ⟨h1,h2⟩:=mem_oldL.1 hp
     rw [hb.block _ h1]; exact h2
    ·exact (n2 p hp).2
 refine (h w fr hst).mono ?_
 rintro e w' ⟨v,h',he,⟨rfl,rfl⟩,hst'⟩
 refine ⟨_,0,he,⟨rfl,rfl⟩,?_⟩
 rw [hzero_add]
 revert hst'
 induction fr using Hp.ind with
 | h l =>
  intro hst'
  obtain ⟨n1,n2⟩:=sat_mk.1 hst'.sat
  have hold:∀ k,k<w0.heap.size→w'.heap[k]?=w0.heap[k]?:=fun k hk=>by
   have hm:(k,w0.heap[k])∈oldL w0:=mem_oldL.2 ⟨hk,Array.getElem?_eq_getElem hk⟩
   rw [(n2 _ (List.mem_append_left _ hm)).2,Array.getElem?_eq_getElem hk]
  refine ⟨⟨hst'.below.os,hst'.below.tape,hst'.below.output,?_,hold⟩,sat_mk.2 ⟨?_,fun p hp=>⟨?_,(n2 p (List.mem_append_right _ hp)).2⟩⟩⟩
  ·rcases Nat.eq_zero_or_pos w0.heap.size with h0|h0
   ·omega
   ·have h1:=hold (w0.heap.size - 1) (by omega)
    rw [Array.getElem?_eq_getElem (show w0.heap.size - 1<w0.heap.size by omega)] at h1
    have:=(Array.getElem?_eq_some_iff.1 h1).1
    omega
  ·rw [List.map_append,List.nodup_append] at n1
   exact n1.2.1
  ·rcases Nat.lt_or_ge p.1 w0.heap.size with hlt|hge
   ·rw [List.map_append,List.nodup_append] at n1
    have hm:(p.1,w0.heap[p.1])∈oldL w0:=mem_oldL.2 ⟨hlt,Array.getElem?_eq_getElem hlt⟩
    exact absurd G (n1.2.2 p.1 (List.mem_map.2 ⟨_,hm,rfl⟩) p.1 (List.mem_map.2 ⟨p,hp,rfl⟩))
   ·exact hge
theorem Reads.bare {w0:World} {ad:Addr} {v:Value} (h:Reads w0 0 ad v):Reads (bareW w0) (oldH w0) ad v:=by
 intro w hst
 have h0:=h w0 (St.start w0)
 have hlt:=World.block_lt_of_cell? w0 ad h0
 have hm:(ad.block,w0.heap[ad.block])∈oldL w0:=mem_oldL.2 ⟨hlt,Array.getElem?_eq_getElem hlt⟩
 have h1:=(hst.sat.2 _ hm).2
 unfold World.cell? at h0 ⊢
 rw [h1]
 rw [Array.getElem?_eq_getElem hlt] at h0
 exact h0
theorem rdB_bare {w0:World} {v:Value} {bs:List Bt} (h:RdL w0 0 v bs):RdL (bareW w0) (oldH w0) v bs:=by
 obtain ⟨es,⟨ad,c,h1,h2,h3⟩,h4⟩:=h
 refine ⟨es,⟨ad,c,h1,h2,fun i x hx=>?_⟩,rdB_enc.2 (rdB_enc.1 h4)⟩
 obtain ⟨b,off,e,hr⟩:=h3 i x hx
 exact ⟨b,off,e,fun j u hu=>(hr j u hu).bare⟩
theorem Spec.sat {P:Program} {w0:World} {f:FuncId} {args:List Value} {X:Hp} {Q:Value→Hp→Prop} (h:Spec P w0 f args X Q):Spec P w0 f args X (fun r h'=>Q r h'∧∃ w',St w0 w' h'):=by
 intro w fr hw
 refine (h w fr hw).mono ?_
 rintro e w' ⟨v,h',he,hq,hst⟩
 exact ⟨v,h',he,⟨hq,w',hst.left⟩,hst⟩
theorem hl_mk :∀ l:List PB,Hl l=Hp.mk (l.map fun x=>(x.1,Obj.cells x.2.1.toArray x.2.2 (0,0)))
 | []=>rfl
 | x::l=>by
  rw [hl_cons,hl_mk l]; rfl
theorem getH_here {w:World} {c:Array Value} {t:TypeId} {fz:Nat × Nat} {b:Nat} (hw:w.heap[b]?=some (.cells c t fz)):∀ {l:List PB},(∀ x∈l,w.heap[x.1]?=some (.cells x.2.1.toArray x.2.2 (0,0)))→(∃ x∈l,x.1=b)→∀ off,getH l b off=c[off]?
 | [],_,h,_=>by obtain ⟨x,hx,_⟩:=h; cases hx
 | y::l,hl,h,off=>by
  by_cases hb:y.1=b
  ·have h1:=hl y (by simp)
   rw [hb,hw] at h1
   cases h1
   show (if y.1=b then y.2.1[off]? else _)=_
   rw [if_pos hb]; simp
  ·show (if y.1=b then _ else getH l b off)=_
   rw [if_neg hb]
   obtain ⟨x,hx,hxb⟩:=h
   rcases List.mem_cons.1 hx with rfl|hx
   ·exact absurd hxb hb
   ·exact getH_here hw (fun z hz=>hl z (by simp [hz])) ⟨x,hx,hxb⟩ off
theorem reads_get {w1 w:World} (h0:w1.heap.size=0) {l:List PB} (hst:St w1 w (Hl l)) {b off:Nat} {v:Value} (hr:Reads w1 (Hl l) ⟨b,off,none⟩ v):getH l b off=some v:=by
 have hs:=hst.sat
 rw [hl_mk] at hs
 obtain ⟨n1,n2⟩:=sat_mk.1 hs
 have hl:∀ x∈l,w.heap[x.1]?=some (.cells x.2.1.toArray x.2.2 (0,0)):=fun x hx=>(n2 (x.1,_) (List.mem_map.2 ⟨x,hx,rfl⟩)).2
 have hc:=hr w hst
 by_cases hin:∃ x∈l,x.1=b
 ·obtain ⟨x,hx,rfl⟩:=hin
  have h1:=hl x hx
  rw [getH_here h1 hl ⟨x,hx,rfl⟩ off]
  unfold World.cell? at hc
  rw [h1] at hc
  exact hc
 ·have hlt:b<w.heap.size:=World.block_lt_of_cell? w _ hc
  have hst2:St w1 { w with heap:=w.heap.setIfInBounds b (.cells #[] 0 (0,0)) } (Hl l):=by
   refine ⟨⟨hst.below.os,hst.below.tape,hst.below.output,by rw [h0]; exact Nat.zero_le _,fun k hk=>absurd hk (by rw [h0]; exact Nat.not_lt_zero k)⟩,?_⟩
   rw [hl_mk]
   refine sat_mk.2 ⟨n1,fun p hp=>⟨(n2 p hp).1,?_⟩⟩
   obtain ⟨x,hx,rfl⟩:=List.mem_map.1 hp
   show (w.heap.setIfInBounds b _)[x.1]?=_
   rw [Array.getElem?_setIfInBounds_ne (fun e=>hin ⟨x,hx,e.symm⟩)]
   exact hl x hx
  have hc2:=hr _ hst2
  unfold World.cell? at hc2
  rw [show (w.heap.setIfInBounds b (Obj.cells #[] 0 (0,0)))[(⟨b,off,none⟩:Addr).block]?=some (.cells #[] 0 (0,0)) from Array.getElem?_setIfInBounds_self_of_lt hlt] at hc2
  simp at hc2
section
variable {w1 w:World} {l:List PB} (h0:w1.heap.size=0) (hst:St w1 w (Hl l))
include h0 hst
theorem byt_of {a:Option Addr} {c:Nat} {xs:List Bt} (hr:RdL w1 (Hl l) (.slice a xs.length c) xs) (hl:xs.length≤1000000000000):BytH l a xs.length:=⟨hl,fun i hi=>by
 obtain ⟨b,off,rfl,e,he,hat⟩:=hr.at hi
 obtain rfl:e=[.int .u8 (xs[i].val:Int)]:=he
 refine ⟨b,off,(xs[i].val:Int),rfl,?_⟩
 have:=reads_get h0 hst (hat 0 _ rfl)
 rwa [show off+i*Rep.size Bt+0=off+i by show off+i*1+0=off+i; omega] at this⟩
theorem int_of {a:Option Addr} {c:Nat} {xs:List Int} (hr:RdL w1 (Hl l) (.slice a xs.length c) xs) (hl:xs.length≤1000000000000):IntH l a xs.length:=⟨hl,fun i hi=>by
 obtain ⟨b,off,rfl,e,he,hat⟩:=hr.at hi
 obtain rfl:e=[.int .i64 xs[i]]:=he
 refine ⟨b,off,xs[i],rfl,?_⟩
 have:=reads_get h0 hst (hat 0 _ rfl)
 rwa [show off+i*Rep.size Int+0=off+i by show off+i*1+0=off+i; omega] at this⟩
theorem wr_of {a:Option Addr} {c:Nat} {xs:List Wr} (hr:RdL w1 (Hl l) (.slice a xs.length c) xs) (hl:xs.length≤1000000000000) (hd:∀ x∈xs,x.data.length≤1000000000000):WrH l a xs.length:=⟨hl,fun i hi=>by
 have hmem:=List.getElem_mem hi
 obtain ⟨b,off,rfl,e,he,hat⟩:=hr.at hi
 obtain ⟨a3,c3,rfl,hdat⟩:=he
 refine ⟨b,off,rfl,fun j t hj=>?_⟩
 have key:∀ (j:Nat) (v:Value),_→getH l b (off+i*2+j)=some v:=fun j v hv=>reads_get h0 hst (hat j v hv)
 match j,hj with
 | 0,hj=>cases hj; exact ⟨_,key 0 _ rfl,_,rfl⟩
 | 1,hj=>cases hj; exact ⟨_,key 1 _ rfl,_,_,_,rfl,byt_of h0 hst hdat (hd _ hmem)⟩
 | j+2,hj=>simp at hj⟩
theorem blk_of {a:Option Addr} {c:Nat} {xs:List Blk} (hr:RdL w1 (Hl l) (.slice a xs.length c) xs) (hl:xs.length≤1000000000000) (hd:∀ x∈xs,x.data.length≤1000000000000):RowH [.int,.bytes] l a xs.length:=⟨hl,fun i hi=>by
 have hmem:=List.getElem_mem hi
 obtain ⟨b,off,rfl,e,he,hat⟩:=hr.at hi
 obtain ⟨a3,c3,rfl,hdat⟩:=he
 refine ⟨b,off,rfl,fun j t hj=>?_⟩
 have key:∀ (j:Nat) (v:Value),_→getH l b (off+i*2+j)=some v:=fun j v hv=>reads_get h0 hst (hat j v hv)
 match j,hj with
 | 0,hj=>cases hj; exact ⟨_,key 0 _ rfl,_,rfl⟩
 | 1,hj=>cases hj; exact ⟨_,key 1 _ rfl,_,_,_,rfl,byt_of h0 hst hdat (hd _ hmem)⟩
 | j+2,hj=>simp at hj⟩
theorem kpt_of {a:Option Addr} {c:Nat} {xs:List Kpt} (hr:RdL w1 (Hl l) (.slice a xs.length c) xs) (hl:xs.length≤1000000000000) (hd:∀ x∈xs,x.data.length≤1000000000000):RowH [.int,.int,.bytes] l a xs.length:=⟨hl,fun i hi=>by
 have hmem:=List.getElem_mem hi
 obtain ⟨b,off,rfl,e,he,hat⟩:=hr.at hi
 obtain ⟨a3,c3,rfl,hdat⟩:=he
 refine ⟨b,off,rfl,fun j t hj=>?_⟩
 have key:∀ (j:Nat) (v:Value),_→getH l b (off+i*3+j)=some v:=fun j v hv=>reads_get h0 hst (hat j v hv)
 match j,hj with
 | 0,hj=>cases hj; exact ⟨_,key 0 _ rfl,_,rfl⟩
 | 1,hj=>cases hj; exact ⟨_,key 1 _ rfl,_,rfl⟩
 | 2,hj=>cases hj; exact ⟨_,key 2 _ rfl,_,_,_,rfl,byt_of h0 hst hdat (hd _ hmem)⟩
 | j+3,hj=>simp at hj⟩
theorem out_of {a:Option Addr} {c:Nat} {xs:List Outp} (hr:RdL w1 (Hl l) (.slice a xs.length c) xs) (hl:xs.length≤1000000000000) (hd:∀ x∈xs,x.data.length≤1000000000000):RowH [.int,.int,.int,.bytes] l a xs.length:=⟨hl,fun i hi=>by
 have hmem:=List.getElem_mem hi
 obtain ⟨b,off,rfl,e,he,hat⟩:=hr.at hi
 obtain ⟨a3,c3,rfl,hdat⟩:=he
 refine ⟨b,off,rfl,fun j t hj=>?_⟩
 have key:∀ (j:Nat) (v:Value),_→getH l b (off+i*4+j)=some v:=fun j v hv=>reads_get h0 hst (hat j v hv)
 match j,hj with
 | 0,hj=>cases hj; exact ⟨_,key 0 _ rfl,_,rfl⟩
 | 1,hj=>cases hj; exact ⟨_,key 1 _ rfl,_,rfl⟩
 | 2,hj=>cases hj; exact ⟨_,key 2 _ rfl,_,rfl⟩
 | 3,hj=>cases hj; exact ⟨_,key 3 _ rfl,_,_,_,rfl,byt_of h0 hst hdat (hd _ hmem)⟩
 | j+4,hj=>simp at hj⟩
theorem ses_of {a:Option Addr} {c:Nat} {xs:List Ses} (hr:RdL w1 (Hl l) (.slice a xs.length c) xs) (hl:xs.length≤1000000000000) (hd:∀ x∈xs,x.res.data.length≤1000000000000):RowH [.int,.int,.int,.bytes] l a xs.length:=⟨hl,fun i hi=>by
 have hmem:=List.getElem_mem hi
 obtain ⟨b,off,rfl,e,he,hat⟩:=hr.at hi
 obtain ⟨a3,c3,rfl,hdat⟩:=he
 refine ⟨b,off,rfl,fun j t hj=>?_⟩
 have key:∀ (j:Nat) (v:Value),_→getH l b (off+i*4+j)=some v:=fun j v hv=>reads_get h0 hst (hat j v hv)
 match j,hj with
 | 0,hj=>cases hj; exact ⟨_,key 0 _ rfl,_,rfl⟩
 | 1,hj=>cases hj; exact ⟨_,key 1 _ rfl,_,rfl⟩
 | 2,hj=>cases hj; exact ⟨_,key 2 _ rfl,_,rfl⟩
 | 3,hj=>cases hj; exact ⟨_,key 3 _ rfl,_,_,_,rfl,byt_of h0 hst hdat (hd _ hmem)⟩
 | j+4,hj=>simp at hj⟩
theorem lk_of {a:Option Addr} {c:Nat} {xs:List Lk} (hr:RdL w1 (Hl l) (.slice a xs.length c) xs) (hl:xs.length≤1000000000000):RowH [.int,.int,.int,.bool] l a xs.length:=⟨hl,fun i hi=>by
 have hmem:=List.getElem_mem hi
 obtain ⟨b,off,rfl,e,he,hat⟩:=hr.at hi
 obtain rfl:e=[.int .i64 xs[i].block,.int .i64 xs[i].txn,.int .i64 xs[i].age,.bool xs[i].write]:=he
 refine ⟨b,off,rfl,fun j t hj=>?_⟩
 have key:∀ (j:Nat) (v:Value),_→getH l b (off+i*4+j)=some v:=fun j v hv=>reads_get h0 hst (hat j v hv)
 match j,hj with
 | 0,hj=>cases hj; exact ⟨_,key 0 _ rfl,_,rfl⟩
 | 1,hj=>cases hj; exact ⟨_,key 1 _ rfl,_,rfl⟩
 | 2,hj=>cases hj; exact ⟨_,key 2 _ rfl,_,rfl⟩
 | 3,hj=>cases hj; exact ⟨_,key 3 _ rfl,_,rfl⟩
 | j+4,hj=>simp at hj⟩
theorem prp_of {a:Option Addr} {c:Nat} {xs:List Prp} (hr:RdL w1 (Hl l) (.slice a xs.length c) xs) (hl:xs.length≤1000000000000) (hd:∀ x∈xs,x.parts.length≤1000000000000∧x.writes.length≤1000000000000∧∀ w∈x.writes,w.data.length≤1000000000000):RowH [.int,.int,.int,.int,.int,.ints,.writes] l a xs.length:=⟨hl,fun i hi=>by
 have hmem:=List.getElem_mem hi
 obtain ⟨b,off,rfl,e,he,hat⟩:=hr.at hi
 obtain ⟨a3,c3,a4,c4,rfl,hp,hw⟩:=he
 refine ⟨b,off,rfl,fun j t hj=>?_⟩
 have key:∀ (j:Nat) (v:Value),_→getH l b (off+i*7+j)=some v:=fun j v hv=>reads_get h0 hst (hat j v hv)
 match j,hj with
 | 0,hj=>cases hj; exact ⟨_,key 0 _ rfl,_,rfl⟩
 | 1,hj=>cases hj; exact ⟨_,key 1 _ rfl,_,rfl⟩
 | 2,hj=>cases hj; exact ⟨_,key 2 _ rfl,_,rfl⟩
 | 3,hj=>cases hj; exact ⟨_,key 3 _ rfl,_,rfl⟩
 | 4,hj=>cases hj; exact ⟨_,key 4 _ rfl,_,rfl⟩
 | 5,hj=>cases hj; exact ⟨_,key 5 _ rfl,_,_,_,rfl,int_of h0 hst hp (hd _ hmem).1⟩
 | 6,hj=>cases hj; exact ⟨_,key 6 _ rfl,_,_,_,rfl,wr_of h0 hst hw (hd _ hmem).2.1 (hd _ hmem).2.2⟩
 | j+7,hj=>simp at hj⟩
theorem shdH_of {s:Shd} {e:List Value} (hs:RdShd w1 (Hl l) s e) (hz:SizeS s):ShdH l e:=by
 obtain ⟨p1,q1,p2,q2,p3,q3,p4,q4,p5,q5,p6,q6,p7,q7,rfl,r1,r2,r3,r4,r5,r6,r7⟩:=hs
 have le:∀ {n:Nat},n≤1000000000→n≤1000000000000:=fun h=>by omega
 exact ⟨⟨_,_,_,p1,_,q1,p2,_,q2,p3,_,q3,p4,_,q4,p5,_,q5,p6,_,q6,p7,_,q7,rfl,rfl,rfl,rfl,
  blk_of h0 hst r1 (le hz.bl.1) (fun x hx=>le (hz.bl.2 x hx)),kpt_of h0 hst r2 (le hz.kp.1) (fun x hx=>le (hz.kp.2 x hx)),lk_of h0 hst r3 (le hz.lk),
  prp_of h0 hst r4 (le hz.pr.1) (fun x hx=>⟨le (hz.pr.2 x hx).1,le (hz.pr.2 x hx).2.1,fun w hw=>le ((hz.pr.2 x hx).2.2 w hw)⟩),int_of h0 hst r5 (le hz.dd),out_of h0 hst r6 (le hz.ou.1) (fun x hx=>le (hz.ou.2 x hx)),ses_of h0 hst r7 (le hz.se.1) (fun x hx=>le (hz.se.2 x hx))⟩⟩
end
theorem flat_mem {α:Type} (f:α→List Bt):∀ {l:List α} {x:α},x∈l→(f x).length≤(l.map f).flatten.length
 | y::l,x,h=>by
  simp only [List.map_cons,List.flatten_cons,List.length_append]
  rcases List.mem_cons.1 h with rfl|h
  ·omega
  ·have:=flat_mem f h; omega
theorem encShd_size {s:Shd} (h:(encShd s).length≤1000000000):SizeS s:=by
 have hsz:(encShd s).length=24+(8+(s.blocks.map encBlk).flatten.length)+(8+(s.kept.map encKpt).flatten.length)+(8+(s.locks.map encLk).flatten.length)+(8+(s.preps.map encPrp).flatten.length)+(8+8*s.dead.length)+(8+(s.outs.map encOut).flatten.length)+(8+(s.sess.map encSes).flatten.length):=by
  unfold encShd
  simp only [List.length_append,be8_length,encInts_length,encL'_length]
 have b1:∀ x:Blk,(encBlk x).length=16+x.data.length:=fun x=>by unfold encBlk; rw [List.length_append,be8_length,blob_length]; omega
 have b2:∀ x:Kpt,(encKpt x).length=24+x.data.length:=fun x=>by unfold encKpt; rw [List.length_append,List.length_append,be8_length,be8_length,blob_length]; omega
 have b3:∀ x:Lk,(encLk x).length=32:=fun x=>by unfold encLk; simp only [List.length_append,be8_length]
 have b8:∀ x:Wr,(encWr x).length=16+x.data.length:=fun x=>by unfold encWr; rw [List.length_append,be8_length,blob_length]; omega
 have b4:∀ x:Prp,(encPrp x).length=56+8*x.parts.length+(x.writes.map encWr).flatten.length:=fun x=>by unfold encPrp; simp only [List.length_append,be8_length,encInts_length,encL'_length]; omega
 have b6:∀ x:Outp,(encOut x).length=32+x.data.length:=fun x=>by unfold encOut; rw [List.length_append,List.length_append,List.length_append,be8_length,be8_length,be8_length,blob_length]; omega
 have b7:∀ x:Ses,(encSes x).length=32+x.res.data.length:=fun x=>by unfold encSes; rw [List.length_append,List.length_append,List.length_append,be8_length,be8_length,be8_length,blob_length]; omega
 have l1:=len_flat encBlk (fun x=>by rw [b1]; omega) s.blocks
 have l2:=len_flat encKpt (fun x=>by rw [b2]; omega) s.kept
 have l3:=len_flat encLk (fun x=>by rw [b3]; omega) s.locks
 have l4:=len_flat encPrp (fun x=>by rw [b4]; omega) s.preps
 have l6:=len_flat encOut (fun x=>by rw [b6]; omega) s.outs
 have l7:=len_flat encSes (fun x=>by rw [b7]; omega) s.sess
 refine ⟨⟨by omega,fun x hx=>?_⟩,⟨by omega,fun x hx=>?_⟩,by omega,⟨by omega,fun x hx=>?_⟩,by omega,⟨by omega,fun x hx=>?_⟩,⟨by omega,fun x hx=>?_⟩⟩
 ·have:=flat_mem encBlk hx; rw [b1] at this; omega
 ·have:=flat_mem encKpt hx; rw [b2] at this; omega
 ·have h1:=flat_mem encPrp hx
  rw [b4] at h1
  have h2:=len_flat encWr (fun x=>by rw [b8]; omega) x.writes
  exact ⟨by omega,by omega,fun w hw=>by have:=flat_mem encWr hw; rw [b8] at this; omega⟩
 ·have:=flat_mem encOut hx; rw [b6] at this; omega
 ·have:=flat_mem encSes hx; rw [b7] at this; omega
theorem getF_size {bs:List Bt} (h:bs.length≤1000000000):SizeS (getF bs).1:=by
 by_cases hz:(getF bs).2=0
 ·exact encShd_size (by rw [getF_back hz]; exact h)
 ·have e:(getF bs).1=Shd.zero:=by
   unfold getF at hz ⊢
   split at hz
   ·rename_i hc; rw [if_pos hc]
   ·simp at hz
  rw [e]
  exact ⟨⟨by decide,by simp [Shd.zero]⟩,⟨by decide,by simp [Shd.zero]⟩,by decide,⟨by decide,by simp [Shd.zero]⟩,by decide,⟨by decide,by simp [Shd.zero]⟩,⟨by decide,by simp [Shd.zero]⟩⟩
def lentL (l:List Bt):List Bt:=l++List.replicate 5 (⟨165,by decide⟩:Bt)
theorem mark_get (l:List Bt) (m:Bt) (i:Nat) (h:i<(l++List.replicate 5 m).length) (h2:l.length≤i):(l++List.replicate 5 m)[i]=m:=by rw [List.getElem_append_right h2,List.getElem_replicate]
theorem lentL_length (l:List Bt):(lentL l).length=l.length+5:=by simp [lentL]
def byV (x:Bt):Value:=.int .u8 (x.val:Int)
theorem mid_set (A:List Value) (x y:Value) (r:List Value):(A++x::r).set A.length y=A++y::r:=by rw [List.set_append_right _ _ (Nat.le_refl _),Nat.sub_self]; rfl
theorem lentB_spec (w0:World) (X:Hp) (v:Value) (l:List Bt) (hv:RdL w0 X v l) (hl:l.length≤1000000000) :
  Spec Tryz.prog w0 11 [v] X (fun r h'=>∃ b h,r=.slice (some ⟨b,0,none⟩) (l.length+5) (l.length+5)∧OwL w0 0 (lentL l) r h∧X+h=h'):=by
 obtain ⟨a,c,rfl⟩:=hv.shape
 have hll:=lentL_length l
 refine zN Tryz.func11 G Tryz.ntmps11 Tryz.results11 G fun fr=>?_
 repeat (first|refine zF ?_|refine zB ?_|refine zE ?_|refine zK G G G ?_|refine L_len G G G ?_|refine L_add G G (by omega) (by omega) G G ?_)
 rw [show (l.length:Int)+5=((l.length+5:Nat):Int) by omega]
 refine L_eff G G (ev_makeSlice (n:=l.length+5) G G G (by omega) (by omega)) ?_
 rintro _ _ ⟨b3,rfl,rfl⟩
 have e0:(List.replicate (l.length+5) (Value.int IntKind.u8 0).cells.toList).flatten=List.replicate (l.length+5) (Value.int IntKind.u8 0):=by simp [Value.cells]
 rw [e0]
 repeat (first|refine zF ?_|refine zR ?_|refine zB ?_|refine zE ?_|refine zK G G G ?_)
 refine hold_count (l.length+5) (fun k g L=>∃ R:Hp,g=[(0,.slice a l.length c),(3,.slice (some ⟨b3,0,none⟩) (l.length+5) (l.length+5)),(4,.int .i64 k)]∧L=X+pt b3 (.cells (((lentL l).take k).map byV++List.replicate (l.length+5 - k) (Value.int IntKind.u8 0)).toArray 5 (0,0))+fr+R) _
  ⟨_,rfl,by show _=X+pt b3 (.cells (List.replicate (l.length+5) (Value.int IntKind.u8 0)).toArray 5 (0,0))+fr+_; exact yK.out⟩ (by repeat (first|exact zT _|refine zO G ?_)) ?_
 rintro k g L hk ⟨R,rfl,rfl⟩
 repeat (first|refine zF ?_|refine zB ?_|refine zK G G G ?_|refine L_len G G G ?_)
 refine yG G G (pv_lss G G) (fun n1=>?_) (fun n1=>?_)
 ·have hx:k<l.length+5:=by omega
  have hx':k<(lentL l).length:=by omega
  have hA:(((lentL l).take k).map byV).length=k:=by rw [List.length_map,List.length_take]; omega
  have hst:=List.take_succ_eq_append_getElem hx'
  have hsv:((lentL l).take (k+1)).map byV=((lentL l).take k).map byV++[byV (lentL l)[k]]:=by rw [hst,List.map_append]; rfl
  rw [show l.length+5 - k=(l.length+5 - (k+1))+1 by omega,List.replicate_succ]
  generalize ((lentL l).take k).map byV=A at *
  generalize hB:List.replicate (l.length+5 - (k+1)) (Value.int IntKind.u8 0)=B at *
  have g1:∀ x:Value,(A++x::B)[0+k*1]?=some x:=fun x=>by rw [Nat.zero_add,Nat.mul_one,← hA,List.getElem?_append_right (Nat.le_refl _),Nat.sub_self]; rfl
  have s1:∀ x y:Value,(A++x::B).set (0+k*1) y=A++y::B:=fun x y=>by rw [Nat.zero_add,Nat.mul_one,← hA]; exact mid_set A x y B
  repeat (first|refine zF ?_|refine zR ?_|refine zB ?_|refine zE ?_|refine zK G G G ?_|refine zP ?_|refine zJ G ?_|refine L_idx G G (by omega) G G ?_)
  refine L_st G G (g1 _) (s1 _ _) G G G ?_
  repeat (first|refine zF ?_|refine zB ?_|refine zE ?_|refine zK G G G ?_|refine L_len G G G ?_)
  refine yG G G (pv_lss G G) (fun n2=>?_) (fun n2=>?_)
  ·have hxl:k<l.length:=by omega
   have hge:(lentL l)[k]=l[k]:=List.getElem_append_left hxl
   obtain ⟨b2,o2,rfl,e,he,hat⟩:=hv.at hxl
   obtain rfl:e=[.int .u8 (l[k].val:Int)]:=he
   repeat (first|refine zB ?_|refine zE ?_|refine zK G G G ?_|refine zJ G ?_|refine L_idx G G (by omega) G G ?_|refine L_at G (by assumption) G G G G ?_)
   refine L_st G G (g1 _) (s1 _ _) G G G ?_
   repeat (first|refine zB ?_|refine zE ?_|refine zK G G G ?_|refine L_add G G (by omega) (by omega) G G ?_)
   exact ⟨hx,_,(by repeat (first|exact zT _|refine zO G ?_)),_,rfl,by rw [hsv,hge,List.append_assoc,hB]; show _=X+pt b3 (.cells (A++.int .u8 (l[k].val:Int)::B).toArray 5 (0,0))+fr+_; exact yK.out⟩
  ·have hge:(lentL l)[k]=(⟨165,by decide⟩:Bt):=mark_get l _ k hx' (by omega)
   repeat (first|refine zB ?_|refine zE ?_|refine zK G G G ?_|refine zP ?_|refine zI G ?_|refine L_add G G (by omega) (by omega) G G ?_)
   exact ⟨hx,_,(by repeat (first|exact zT _|refine zO G ?_)),_,rfl,by rw [hsv,hge,List.append_assoc,hB]; show _=X+pt b3 (.cells (A++.int .u8 165::B).toArray 5 (0,0))+fr+_; exact yK.out⟩
 ·rw [List.take_of_length_le (by omega),show l.length+5 - k=0 by omega,List.replicate_zero,List.append_nil]
  repeat (first|refine zF ?_|refine yD ?_|refine zB ?_|refine zE ?_|refine zK G G G ?_|refine zM ?_|refine zI G ?_)
  refine ⟨[_],X+pt b3 (.cells ((lentL l).map byV).toArray 5 (0,0)),_,⟨rfl,trivial⟩,⟨b3,_,rfl,?_,rfl⟩,yK.out⟩
  have hb:=OwL.block (w0:=w0) (X:=0) (b:=b3) (xs:=lentL l) (es:=(lentL l).map cellB) (rdB_enc.2 G) (by rw [hll]; exact Nat.le_trans (show l.length+5≤1000000005 by omega) (by decide))
  have e1:((lentL l).map cellB).flatten=(lentL l).map byV:=by
   generalize lentL l=m
   induction m with
   | nil=>rfl
   | cons x m ih=>rw [List.map_cons,List.flatten_cons,ih]; rfl
  rw [e1,hll] at hb
  exact hb
theorem keptB_spec (w0:World) (X:Hp) (b:Nat) (v:Value) (l:List Bt) (hx:RdL w0 X (.slice (some ⟨b,0,none⟩) (l.length+5) (l.length+5)) (lentL l)) (hv:RdL w0 X v l) (hl:l.length≤100000000) :
  Spec Tryz.prog w0 15 [.slice (some ⟨b,0,none⟩) (l.length+5) (l.length+5),v] X (fun r h'=>r=.bool true∧X=h'):=by
 have hll:=lentL_length l
 have htk:=hx.take (m:=l.length) (by omega)
 have e0:(lentL l).take l.length=l:=by unfold lentL; rw [List.take_append_of_le_length (Nat.le_refl _),List.take_length]
 rw [e0] at htk
 have hsb:=sameB_spec w0 X (.slice (some ⟨b,0,none⟩) l.length (l.length+5)) v l l htk hv (by omega) (by omega)
 rw [decide_eq_true (rfl:l=l)] at hsb
 obtain ⟨a,c,rfl⟩:=hv.shape
 refine zN Tryz.func15 G Tryz.ntmps15 Tryz.results15 G fun fr=>?_
 repeat (first|refine zF ?_|refine zB ?_|refine zE ?_|refine zK G G G ?_|refine L_len G G G ?_|refine L_add G G (by omega) (by omega) G G ?_)
 refine L_no G G (pv_neq G G) (by omega) ?_
 repeat (first|refine zK G G G ?_|refine L_len G G G ?_)
 refine yH G G (pv_slice_h (m:=l.length) G G (by omega)) ?_
 repeat (refine zK G G G ?_)
 refine zY G G (zQ G G G) hsb ?_
 rintro _ _ ⟨rfl,rfl⟩
 repeat (first|refine zF ?_|refine zR ?_|refine zB ?_|refine zE ?_|refine zK G G G ?_|refine L_len G G G ?_|refine zP ?_|refine zI G ?_)
 refine hold_count 5 (fun k g L=>∃ R:Hp,g=[(0,.slice (some ⟨b,0,none⟩) (l.length+5) (l.length+5)),(5,.int .i64 ((l.length+k:Nat):Int))]∧L=X+fr+R) _ ⟨_,rfl,yK.out⟩ (by repeat (first|exact zT _|refine zO G ?_)) ?_
 rintro k g L hk ⟨R,rfl,rfl⟩
 repeat (first|refine zF ?_|refine zB ?_|refine zK G G G ?_|refine L_len G G G ?_)
 refine yG G G (pv_lss G G) (fun n1=>?_) (fun n1=>?_)
 ·have hx5:l.length+k<(lentL l).length:=by omega
  have hge:(lentL l)[l.length+k]=(⟨165,by decide⟩:Bt):=mark_get l _ _ hx5 (by omega)
  obtain ⟨b2,o2,e2,e,he,hat⟩:=hx.at hx5
  rw [hge] at he
  cases e2
  obtain rfl:e=[.int .u8 165]:=he
  repeat (first|refine zF ?_|refine zR ?_|refine zB ?_|refine zE ?_|refine zK G G G ?_|refine zP ?_|refine zJ G ?_|refine L_idx G G (by omega) G G ?_|refine L_at G (by assumption) G G G G ?_)
  refine L_no G G (pv_neq G G) (by decide) ?_
  repeat (first|refine zB ?_|refine zE ?_|refine zK G G G ?_|refine zP ?_|refine zI G ?_|refine L_add G G (by omega) (by omega) G G ?_)
  rw [show ((l.length+k:Nat):Int)+1=((l.length+(k+1):Nat):Int) by omega]
  exact ⟨by omega,_,(by repeat (first|exact zT _|refine zO G ?_)),_,rfl,yK.out⟩
 ·repeat (first|refine zF ?_|refine yD ?_|refine zB ?_|refine zE ?_|refine zK G G G ?_|refine zM ?_|refine zI G ?_)
  exact ⟨[_],X,_,⟨rfl,trivial⟩,⟨rfl,rfl⟩,yK.out⟩
end Sl
end Go.Proofs.YtpkealohodeifaaGreat
namespace Go.Proofs.YtpkealohodeifaaGreat
open Go Go.RowKit
namespace Sl
set_option maxHeartbeats 16000000
set_option maxRecDepth 4000
set_option synthInstance.maxHeartbeats 400000
set_option synthInstance.maxSize 100000
attribute [local irreducible] Hold HoldL HoldW
theorem OwShd.plain {w0:World} {X h:Hp} {s:Shd} {e:List Value} (H:OwShd w0 X s e h):Plain h:=by
 obtain ⟨a1,c1,a2,c2,a3,c3,a4,c4,a5,c5,a6,c6,a7,c7,h1,h2,h3,h4,h5,h6,h7,_,o1,o2,o3,o4,o5,o6,o7,rfl⟩:=H
 exact (((((o1.plain.add o2.plain).add o3.plain).add o4.plain).add o5.plain).add o6.plain).add o7.plain
theorem bytes1_spec (w0:World) (h0:w0.heap.size=0) (X:Hp) (v:Value) (bs:List Bt) (hv:RdL w0 X v bs) (hl:bs.length≤140737488355328) :
  Spec Tryz.prog w0 3 [v] X (fun r h'=>r=.bool true∧X=h'):=by
 by_cases hbig:65536<bs.length
 ·obtain ⟨a,c,rfl⟩:=hv.shape
  refine zN Tryz.func3 G Tryz.ntmps3 Tryz.results3 G fun fr=>?_
  repeat (first|refine zF ?_|refine zB ?_|refine zE ?_|refine zK G G G ?_|refine L_len G G G ?_)
  refine L_yes G G (pv_gtr G G) (by omega) ?_
  repeat (first|refine zF ?_|refine zB ?_|refine zE ?_|refine zJ G ?_)
  refine zY G G (zQ G G G) (works22_spec w0) ?_
  rintro _ _ ⟨rfl,rfl⟩
  repeat (first|refine zE ?_|refine zK G G G ?_|refine zM ?_)
  exact ⟨[_],X,_,⟨rfl,trivial⟩,⟨rfl,rfl⟩,yK.out⟩
 have hlent:=lentB_spec w0 X v bs hv (by omega)
 have href:=refGet_spec w0 X v bs hv (by omega)
 have hz:=getF_size (bs:=bs) (by omega)
 have hback:=getF_back (bs:=bs)
 have hll:=lentL_length bs
 obtain ⟨a,c,rfl⟩:=hv.shape
 refine zN Tryz.func3 G Tryz.ntmps3 Tryz.results3 G fun fr=>?_
 repeat (first|refine zF ?_|refine zB ?_|refine zE ?_|refine zK G G G ?_|refine L_len G G G ?_)
 refine L_no G G (pv_gtr G G) (by omega) ?_
 repeat (first|refine zF ?_|refine zB ?_|refine zE ?_|refine zK G G G ?_|refine zP ?_|refine zI G ?_)
 refine zY G G (zQ G G G) hlent ?_
 rintro _ _ ⟨bx,hx,rfl,hox,rfl⟩
 have hrx:RdL w0 hx (.slice (some ⟨bx,0,none⟩) (bs.length+5) (bs.length+5)) (lentL bs):=hox.rdh
 have htk:=hrx.take (m:=bs.length) (by omega)
 have etk:(lentL bs).take bs.length=bs:=by unfold lentL; rw [List.take_append_of_le_length (Nat.le_refl _),List.take_length]
 rw [etk] at htk
 have hget:=(get22P_spec w0 hx _ bs htk (by omega)).sat
 have hkept:=keptB_spec w0 (X+hx) bx (.slice a bs.length c) bs (hrx.mono (hadd_comm _ _)) (hv.mono G) (by omega)
 have hput:=fun (T:Hp) (e:List Value) (h:RdShd w0 T (getF bs).1 e) (hb:encShd (getF bs).1=bs)=>put22_spec w0 T (getF bs).1 e h (by rw [hb]; omega)
 have hrput:=fun (T:Hp) (e:List Value) (h:RdShd w0 T (getF bs).1 e) (hb:encShd (getF bs).1=bs)=>refPut_spec w0 T (getF bs).1 e h (by rw [hb]; omega)
 generalize getF bs=gf at *
 obtain ⟨s,er⟩:=gf
 simp only at *
 repeat (first|refine zF ?_|refine zB ?_|refine zE ?_|refine zK G G G ?_|refine L_len G G G ?_)
 refine yH G G (pv_slice_h (m:=bs.length) G G (by omega)) ?_
 skip
 refine zY G G (zQ G G G) hget ?_
 rintro _ _ ⟨⟨e1,D1,h1,rfl,hp1,how1,rfl⟩,w',hst⟩
 obtain ⟨l1,el1⟩:∃ l,D1+h1=Hl l:=hp1.add how1.plain
 have hs1:RdShd w0 (Hl l1) s e1:=el1▸how1.rd
 have hst1:St w0 w' (Hl l1):=by rw [← el1]; exact hst.right
 have hH:=shdH_of h0 hst1 hs1 hz
 have hspoil:=spoilShd_spec w0 l1 s e1 (Hl l1) hs1 hH
 rw [el1]
 clear hst hp1 how1 el1 hst1 hH
 obtain ⟨m1,qm1,m2,qm2,m3,qm3,m4,qm4,m5,qm5,m6,qm6,m7,qm7,rfl,_,_,_,_,_,_,_⟩:=id hs1
 repeat (first|refine zF ?_|refine zB ?_|refine zE ?_|refine zK G G G ?_|refine L_len G G G ?_|refine L_stA G (vs:=[_,_,_,_,_,_,_,_,_,_]) G G G G (c':=[_,_,_,_,_,_,_,_,_,_]) G G ?_|refine L_alloc (c:=[_,_,_,_,_,_,_,_,_,_]) G G G (fun _=>?_))
 refine yH G G (pv_slice_h (m:=bs.length) G G (by omega)) ?_
 skip
 refine zY G G (zQ G G G) hget ?_
 rintro _ _ ⟨⟨e2,D2,h2,rfl,_,how2,rfl⟩,_⟩
 have hs2:RdShd w0 (D2+h2) s e2:=how2.rd
 generalize D2+h2=T at *
 clear how2
 have hputT:=hput T e2 hs2
 obtain ⟨k1,qk1,k2,qk2,k3,qk3,k4,qk4,k5,qk5,k6,qk6,k7,qk7,rfl,_,_,_,_,_,_,_⟩:=id hs2
 repeat (first|refine zF ?_|refine zB ?_|refine zE ?_|refine zK G G G ?_|refine L_stA G (vs:=[_,_,_,_,_,_,_,_,_,_]) G G G G (c':=[_,_,_,_,_,_,_,_,_,_]) G G ?_|refine L_alloc (c:=[_,_,_,_,_,_,_,_,_,_]) G G G (fun _=>?_))
 refine zY G G (zQ G G G) href ?_
 rintro _ _ ⟨e3,W,rfl,hs3,rfl⟩
 have hrputW:=hrput W e3 hs3
 have hss1:=sameShd1_spec w0 (Hl l1+W) s s _ _ (hs1.mono G) (hs3.mono (hadd_comm _ _)) hz hz
 have hss2:=sameShd1_spec w0 (T+W) s s _ _ (hs2.mono G) (hs3.mono (hadd_comm _ _)) hz hz
 rw [decide_eq_true (rfl:s=s)] at hss1 hss2
 obtain ⟨n1,qn1,n2,qn2,n3,qn3,n4,qn4,n5,qn5,n6,qn6,n7,qn7,rfl,_,_,_,_,_,_,_⟩:=id hs3
 repeat (first|refine zF ?_|refine zB ?_|refine zE ?_|refine zK G G G ?_|refine L_stA G (vs:=[_,_,_,_,_,_,_,_,_,_]) G G G G (c':=[_,_,_,_,_,_,_,_,_,_]) G G ?_|refine L_alloc (c:=[_,_,_,_,_,_,_,_,_,_]) G G G (fun _=>?_))
 refine L_no G G (pv_neq G G) (by omega) ?_
 repeat (refine zK G G G ?_)
 refine L_no G G (pv_neq G G) (by omega) ?_
 repeat (first|refine zK G G G ?_|refine L_ldA G (vs:=[_,_,_,_,_,_,_,_,_,_]) G G G G G ?_)
 refine zY G G (zQ G G G) hss1 ?_
 rintro _ _ ⟨rfl,rfl⟩
 repeat (refine zK G G G ?_)
 refine zY G G (zQ G G G) hkept ?_
 rintro _ _ ⟨rfl,rfl⟩
 repeat (first|refine zF ?_|refine zB ?_|refine zE ?_|refine zK G G G ?_|refine zP ?_|refine zI G ?_|refine L_ldA G (vs:=[_,_,_,_,_,_,_,_,_,_]) G G G G G ?_)
 refine zY G G (zQ G G G) hspoil ?_
 rintro _ _ ⟨m1,_,rfl⟩
 repeat (first|refine zF ?_|refine zB ?_|refine zE ?_|refine zK G G G ?_)
 refine zY G G (zQ G G G) (spoilB_spec w0 0 _ (lentL bs) hx hox (by omega)) ?_
 rintro _ hx2 _
 repeat (first|refine zF ?_|refine zB ?_|refine zE ?_|refine L_ldA G (vs:=[_,_,_,_,_,_,_,_,_,_]) G G G G G ?_)
 refine zY G G (zQ G G G) hss2 ?_
 rintro _ _ ⟨rfl,rfl⟩
 repeat (first|refine zF ?_|refine zB ?_|refine zE ?_|refine zK G G G ?_|refine zP ?_|refine zI G ?_)
 refine yG G G (pv_neq G G) (fun n1=>?_) (fun n1=>?_)
 ·repeat (first|refine zF ?_|refine zB ?_|refine zE ?_|refine zJ G ?_)
  refine zY G G (zQ G G G) (works22_spec w0) ?_
  rintro _ _ ⟨rfl,rfl⟩
  repeat (first|refine zE ?_|refine zK G G G ?_|refine zM ?_)
  exact ⟨[_],X,_,⟨rfl,trivial⟩,⟨rfl,rfl⟩,yK.out⟩
 have hb:=hback (by omega)
 have hp:=hputT hb
 have hrp:=hrputW hb
 rw [hb] at hp hrp
 repeat (first|refine zF ?_|refine zB ?_|refine zE ?_|refine zP ?_|refine zI G ?_|refine L_ldA G (vs:=[_,_,_,_,_,_,_,_,_,_]) G G G G G ?_)
 refine zY G G (zQ G G G) hp ?_
 rintro vc _ ⟨hc,hoc,rfl⟩
 repeat (first|refine zF ?_|refine zB ?_|refine zE ?_|refine zK G G G ?_|refine L_ldA G (vs:=[_,_,_,_,_,_,_,_,_,_]) G G G G G ?_)
 refine zY G G (zQ G G G) hp ?_
 rintro vd _ ⟨hd,hod,rfl⟩
 have hcb:=sameB_spec w0 (X+hc) vc (.slice a bs.length c) bs bs (hoc.rdh.mono (hadd_comm _ _)) (hv.mono G) (by omega) (by omega)
 have hdb:=sameB_spec w0 (X+hd) vd (.slice a bs.length c) bs bs (hod.rdh.mono (hadd_comm _ _)) (hv.mono G) (by omega) (by omega)
 rw [decide_eq_true (rfl:bs=bs)] at hcb hdb
 have hsc:=spoilB_spec w0 0 vc bs hc hoc (by omega)
 have hccr:=hoc.rdh
 obtain ⟨ac,cc,rfl⟩:=hoc.shape
 obtain ⟨ad,cd,rfl⟩:=hod.shape
 repeat (first|refine zF ?_|refine zB ?_|refine zE ?_|refine zK G G G ?_)
 refine zY G G (zQ G G G) hcb ?_
 rintro _ _ ⟨rfl,rfl⟩
 repeat (first|refine zK G G G ?_|refine L_ldA G (vs:=[_,_,_,_,_,_,_,_,_,_]) G G G G G ?_)
 refine zY G G (zQ G G G) hrp ?_
 rintro ve _ ⟨he,hoe,rfl⟩
 have hce:=sameB_spec w0 (hc+he) (.slice ac bs.length cc) ve bs bs (hccr.mono G) (hoe.rdh.mono (hadd_comm _ _)) (by omega) (by omega)
 rw [decide_eq_true (rfl:bs=bs)] at hce
 obtain ⟨ae,ce,rfl⟩:=hoe.shape
 skip
 refine zY G G (zQ G G G) hce ?_
 rintro _ _ ⟨rfl,rfl⟩
 repeat (first|refine zF ?_|refine zB ?_|refine zE ?_|refine zK G G G ?_|refine zP ?_|refine zI G ?_)
 refine zY G G (zQ G G G) hsc ?_
 rintro _ hc2 _
 repeat (first|refine zF ?_|refine zB ?_|refine zE ?_|refine zK G G G ?_)
 refine zY G G (zQ G G G) hdb ?_
 rintro _ _ ⟨rfl,rfl⟩
 repeat (first|refine zK G G G ?_|refine L_ldA G (vs:=[_,_,_,_,_,_,_,_,_,_]) G G G G G ?_)
 refine zY G G (zQ G G G) hss2 ?_
 rintro _ _ ⟨rfl,rfl⟩
 repeat (refine zK G G G ?_)
 refine zY G G (zQ G G G) (works22_spec w0) ?_
 rintro _ _ ⟨rfl,rfl⟩
 repeat (first|refine zE ?_|refine zK G G G ?_|refine zM ?_)
 exact ⟨[_],X,_,⟨rfl,trivial⟩,⟨rfl,rfl⟩,yK.out⟩
theorem shardBytes_spec (w0:World) (v:Value) (bs:List Bt) (hv:RdL w0 0 v bs) (hl:bs.length≤140737488355328) :
  Spec Tryz.prog w0 3 [v] 0 (fun r h'=>r=.bool true∧0=h'):=.bare (bytes1_spec (bareW w0) G (oldH w0) v bs (rdB_bare hv) hl)
end Sl
end Go.Proofs.YtpkealohodeifaaGreat
