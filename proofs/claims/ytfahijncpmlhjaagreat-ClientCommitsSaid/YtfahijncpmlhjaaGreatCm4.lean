/-
  What clientCommits.proved hangs on, part 4 of 7: ClCc, ClWk, ClWh, ClWi, ClDf, ClWe, ClGm, ClGn, ClGo, ClWj, ClWl, ClWm, ClPe, ShSo, ClSf, ClWn, ClWo, ClPf, ClPg, ClWd, ClWf, ClWg, ClSz, NilM.
-/
import Derived.Test.YtfahijncpmlhjaaGreatCm3
import Derived.Test.YtfahijncpmlhjaaGreatCm1
import Derived.Test.YtfahijncpmlhjaaGreatCm2
set_option linter.unusedVariables false
set_option linter.unusedSimpArgs false
namespace Go.Proofs.YtfahijncpmlhjaaGreat
open Go Go.RowKit
namespace Sl
set_option maxHeartbeats 4000000
set_option maxRecDepth 4000
set_option synthInstance.maxHeartbeats 400000
set_option synthInstance.maxSize 100000
attribute [local irreducible] xY yW xC
theorem ev_append_zeros_nil {P:Program} {w0:World} {L:Hp} {g:Env} {t tn e:TypeId} [hu:Und P t (.slice e)] [hun:Und P tn (.int .i64)] {sz by':Nat} {z:Value} [hi:Inf P e sz by' z] {x y:Operand} {k:Nat}
  (hx:ev g x=some (.slice none 0 0)) (hy:ev g y=some (.int .i64 (k:Int))) (hk:0<k)
  (hsz:(sz==0)=false) (hzs:(z.cells.size==sz)=true) (hby:(by'==0)=false) (hb:k*by'≤140737488355328) :
  EV P w0 L g (.call { callee:=.builtin .append,args:=#[x,y],argTypes:=#[t,tn] }) fun u L'=>∃ (b2 cap2:Nat) (spare:List Value),u=.slice (some ⟨b2,0,none⟩) k cap2∧k≤cap2∧cap2≤maxLen∧spare.length=(cap2 - k)*sz ∧
   L'=pt b2 (.cells ((List.replicate k z.cells.toList).flatten++spare).toArray e (0,0))+L:=by
 intro op a w m ho ha hst
 obtain ⟨i,i1,i2,i3,i4⟩:=hi.out
 have hby':1≤by':=by
   have:by'≠0:=by simpa using hby
   omega
 have hsz':1≤sz:=by
   have:sz≠0:=by simpa using hsz
   omega
 have hzs':z.cells.size=sz:=by simpa using hzs
 have hlen:k≤140737488355328:=Nat.le_trans (Nat.le_mul_of_pos_right _ hby') hb
 have hfc:(Builtin.firstCells i.size 0 (.slice none 0 0)).run P w.drew=.ok ([]:List Value).toArray w.drew:=by
  simp [Builtin.firstCells]
 have hfits:Builtin.nextslicecap (0+k) 0*by'≤281474976710656:=growslice_fits (by omega) (by simpa using hb)
 have hrun:=Lib.run_append_grow_zeros (P:=P) w t tn op.type e i z .i64 .i64 hu.out hun.out i1 i4 none 0 0 [] hfc k hk (by rw [i2]; omega) (by omega) (by omega)
  (by rw [i3]; exact Nat.le_trans hb (by omega)) (by rw [i3]; exact hfits)
 refine ⟨_,w.drew.alloc (.cells (([]:List Value).toArray++Builtin.zeroCells z.cells k++Builtin.zeroCells z.cells (grownCap w (0+k) 0 e - (0+k))) e),_,.inl ?_,⟨w.heap.size,grownCap w (0+k) 0 e,(Builtin.zeroCells z.cells (grownCap w (0+k) 0 e - (0+k))).toList,by rw [Nat.zero_add],by have:=grownCap_ge w (0+k) 0 e; omega,grownCap_le_maxLen w _ _ _ (by unfold maxLen; omega),?_,rfl⟩,?_⟩
 ·unfold execOp
  simp only [ho,resolve,invoke,builtin,ha.ev hx,ha.ev hy,List.map_toArray,List.map_cons,List.map_nil,pure_bind,Sem.run_bind,hrun,Result.andThen_ok,Sem.run_pure]
  simp only [Nat.zero_add]
 ·simp only [Array.length_toList,size_zeroCells,hzs',Nat.zero_add]
 ·have e1:((List.replicate k z.cells.toList).flatten++(Builtin.zeroCells z.cells (grownCap w (0+k) 0 e - (0+k))).toList).toArray=([]:List Value).toArray++Builtin.zeroCells z.cells k++Builtin.zeroCells z.cells (grownCap w (0+k) 0 e - (0+k)):=by
   apply Array.ext'
   simp [zeroCells_eq]
  rw [e1]
  exact hst.drew.alloc _
theorem growI_spec (w0:World) (k:Nat) (hk:k≤1000000000):yO Tryz.prog w0 281 [.slice none 0 0,.int .i64 (k:Int)] 0 (fun r h'=>OwL w0 0 ([]:List Int) r h'):=by
 refine zN Tryz.func281 M Tryz.ntmps281 Tryz.results281 M fun fr=>?_
 refine zaC ?_
 refine yP M M (yS M M) (by omega) ?_
 refine zaW ?_
 refine yG M M (pv_cap M) ?_
 repeat (first|refine zF ?_|refine zB ?_|refine zE ?_|refine zK M M M ?_|refine yT M M M ?_|refine gA M M (by omega) (by omega) M M ?_)
 rw [show (k:Int) - (((0:Nat):Int) - ((0:Nat):Int))=k by omega]
 by_cases h0:k=0
 ·subst h0
  refine yP M M (kB M M) (by omega) ?_
  refine zbD ?_
  exact ⟨[_],0,_,⟨rfl,trivial⟩,OwL.nil _ _,yJ.out⟩
 ·refine kD M M (kB M M) (by omega) ?_
  refine zaU ?_
  refine yG M M (pv_cap M) ?_
  skip
  refine yG M M (pv_slice_h (m:=0) M M (by omega)) ?_
  repeat (refine zK M M M ?_)
  refine kF M M (ev_append_zeros_nil M M (by omega) M M M (by omega)) ?_
  rintro _ _ ⟨b2,cap2,spare,rfl,hc1,hc2,hc3,rfl⟩
  refine zcF ?_
  refine yG M M (pv_slice_h (m:=0) M M (by omega)) ?_
  refine zbG ?_
  refine ⟨[_],pt b2 (.cells ((List.replicate k (Value.int .i64 0 |>.cells.toList)).flatten++spare).toArray 3 (0,0)),_,⟨rfl,trivial⟩,?_,yJ.out⟩
  refine ⟨[],?_,trivial⟩
  have hz:((List.replicate k (Value.int .i64 0 |>.cells.toList)).flatten).length=k:=by rw [flat_reps]; simp [Value.cells]
  have hrow:=jH (E:=3) (size:=1) (xs:=[]) (b:=b2) (cap:=cap2) (spare:=(List.replicate k (Value.int .i64 0 |>.cells.toList)).flatten++spare) (by simp) (by simp) hc2 (by rw [List.length_append,hz,hc3,List.length_nil]; omega)
  exact hrow
theorem zeM {G G' : Prop} (h : G') (f : Zh G'→G:=by intro h; (repeat (first|refine zF ?_|refine zR ?_|refine zB ?_|refine zE ?_|refine zK M M M ?_|refine yM M M M M M ?_|refine yT M M M ?_|refine zP ?_|refine zJ M ?_|refine yU M M (by omega) (by omega) M M ?_|refine kC M M (by omega) M M ?_)); exact h.o) : G:=f ⟨h⟩
theorem zeN {G G' : Prop} (h : G') (f : Zh G'→G:=by intro h; (repeat (first|refine zF ?_|refine zR ?_|refine zB ?_|refine zE ?_|refine zK M M M ?_|refine yM M M M M M ?_|refine zP ?_|refine zJ M ?_|refine kC M M (by omega) M M ?_)); exact h.o) : G:=f ⟨h⟩
theorem concat2_spec (w0:World) (X:Hp) (bs:Nat) (v1 v2:Value) (l1 l2:List Int) (h1:RdL w0 X v1 l1) (h2:RdL w0 X v2 l2) (hl:l1.length+l2.length≤1000000000) :
  yO Tryz.prog w0 209 [.slice (some ⟨bs,0,none⟩) 2 2] (X+pt bs (.cells [v1,v2].toArray 61 (0,0))) (fun r h'=>∃ h,OwL w0 0 (l1++l2) r h∧X+h=h'):=by
 obtain ⟨a1,c1,rfl⟩:=h1.shape
 obtain ⟨a2,c2,rfl⟩:=h2.shape
 refine zN Tryz.func209 M Tryz.ntmps209 Tryz.results209 M fun fr=>?_
 refine zaS ?_
 refine yN 2 (fun k g L=>∃ (sz:Nat) (R:Hp),g=[(0,.slice (some ⟨bs,0,none⟩) 2 2),(3,.int .i64 (sz:Int)),(9,.slice (some ⟨bs,0,none⟩) 2 2),(10,.int .i64 ((2:Nat):Int)),(11,.int .i64 (k:Int))]∧sz=(if k=0 then 0 else if k=1 then l1.length else l1.length+l2.length) ∧
  L=X+pt bs (.cells [.slice a1 l1.length c1,.slice a2 l2.length c2].toArray 61 (0,0))+fr+R) _ ⟨0,0,rfl,rfl,(yA _).symm⟩ zsb ?_
 rintro k g L hk ⟨sz,R,rfl,hsz,rfl⟩
 refine zaH ?_
 refine yF M M (yS M M) (fun n1=>?_) (fun n1=>?_)
 ·have hk2:k=0∨k=1:=by omega
  rcases hk2 with rfl|rfl
  ·rw [if_pos M] at hsz
   subst hsz
   refine zeM ?_
   refine yP M M (yS M M) (by omega) ?_
   refine zaJ ?_
   rw [show (((0:Nat):Int)+(l1.length:Int))=((l1.length:Nat):Int) by omega]
   exact ⟨by omega,_,zsb,l1.length,_,rfl,rfl,yJ.out⟩
  ·rw [if_neg (by omega),if_pos M] at hsz
   subst hsz
   refine zeM ?_
   refine yP M M (yS M M) (by omega) ?_
   refine zaJ ?_
   rw [show ((l1.length:Int)+(l2.length:Int))=((l1.length+l2.length:Nat):Int) by omega]
   exact ⟨by omega,_,zsb,l1.length+l2.length,_,rfl,rfl,yJ.out⟩
 ·obtain rfl:k=2:=by omega
  rw [if_neg (by omega),if_neg (by omega)] at hsz
  subst hsz
  refine zbB ?_
  refine zX M M (zQ M M M) (growI_spec w0 (l1.length+l2.length) hl) ?_
  rintro v0 hg0 ho0
  obtain ⟨a0,c0,rfl⟩:=ho0.shape
  refine zaS ?_
  refine yN 2 (fun k g L=>∃ (vo:Value) (ho R:Hp),g=[(6,vo),(25,.slice (some ⟨bs,0,none⟩) 2 2),(26,.int .i64 ((2:Nat):Int)),(27,.int .i64 (k:Int))]∧OwL w0 0 (if k=0 then [] else if k=1 then l1 else l1++l2) vo ho ∧
   L=X+pt bs (.cells [.slice a1 l1.length c1,.slice a2 l2.length c2].toArray 61 (0,0))+ho+fr+R) _ ⟨_,hg0,_,rfl,ho0,yJ.out⟩ zsb ?_
  rintro k g L hk ⟨vo,ho,R2,rfl,hov,rfl⟩
  refine zaH ?_
  refine yF M M (yS M M) (fun n1=>?_) (fun n1=>?_)
  ·have hk2:k=0∨k=1:=by omega
   rcases hk2 with rfl|rfl
   ·rw [if_pos M] at hov
    refine zeN ?_
    refine kF M M (xR (X:=0) (h:=ho) (ns:=l1) M M hov (rdL_ints.1 h1.frame) (rdI_enc.2 M) M M M M M (by simp only [List.length_nil]; omega)) ?_
    rintro v5 _ ⟨h5,ho5,rfl⟩
    refine zaI ?_
    exact ⟨by omega,_,zsb,v5,h5,_,rfl,ho5,yJ.out⟩
   ·rw [if_neg (by omega),if_pos M] at hov
    refine zeN ?_
    refine kF M M (xR (X:=0) (h:=ho) (ns:=l2) M M hov (rdL_ints.1 h2.frame) (rdI_enc.2 M) M M M M M (by omega)) ?_
    rintro v5 _ ⟨h5,ho5,rfl⟩
    refine zaI ?_
    exact ⟨by omega,_,zsb,v5,h5,_,rfl,ho5,yJ.out⟩
  ·obtain rfl:k=2:=by omega
   rw [if_neg (by omega),if_neg (by omega)] at hov
   refine zaK ?_
   exact ⟨[_],X+ho,_,⟨rfl,trivial⟩,⟨ho,hov,rfl⟩,yJ.out⟩
theorem bJ (w0:World) (X:Hp) (tb:Nat) (t:Txn) (h:Hp) (H:uL w0 X tb t h) (hl:t.parts.length+t.asked.length≤1000000000) :
  yO Tryz.prog w0 120 [pB tb] (X+h) (fun r h'=>∃ h2,OwL w0 0 (xH t) r h2∧X+h+h2=h'):=by
 obtain ⟨vr,va,vw,ap,cp,hr,ha,hw,rfl,h1,h2,h3,h4⟩:=H
 obtain ⟨aa,ca,rfl⟩:=h2.shape
 refine zN Tryz.func120 M Tryz.ntmps120 Tryz.results120 M fun fr=>?_
 refine zaC ?_
 refine yB [8,9] [0,1,2,3,4,5,6,7,8,9,10] (by kernel_rfl) M (by kernel_rfl) (by kernel_rfl) ?_
 refine zaF ?_
 refine xS M M M M (xV (vs:=[_,_]) (cells:=[_,_]) M M M M) (xF.all _) ?_
 rintro _ _ ⟨bs,rfl,rfl⟩
 refine ⟨zka,?_⟩
 skip
 refine xU M M M M (zQ M M M) (concat2_spec w0 (X+ha) bs _ _ t.parts t.asked (h4.mono M) (h2.rdh.mono (uQ _ _)) hl) (xF.all _) ?_
 rintro v1 _ ⟨k1,o1,rfl⟩
 obtain ⟨a1,c1,rfl⟩:=o1.shape
 refine ⟨zka,?_⟩
 refine zaD ?_
 refine zaV ?_
 have hlen:(t.parts++t.asked).length≤1000000000:=by rw [List.length_append]; exact hl
 refine zX M M (zQ M M M) (sort_spec w0 _ _ k1 (gF.1 o1) hlen) ?_
 rintro v2 k2 o2
 refine zaC ?_
 refine zX M M (zQ M M M) (compact_spec w0 _ _ k2 o2 (by rw [uS]; exact hlen)) ?_
 rintro v3 k3 o3
 have o4:OwL w0 0 (xH t) v3 k3:=gF.2 o3
 obtain ⟨a3,c3,rfl⟩:=o4.shape
 refine zaE ?_
 exact ⟨[_],X+(txnC tb (.int .i64 t.id::.int .i64 t.age::vr::.slice aa t.asked.length ca::vw::.slice ap t.parts.length cp::.int .i64 t.slo::.int .i64 t.shi::[])+(hr+(ha+hw)))+k3,_,⟨rfl,trivial⟩,⟨k3,o4,rfl⟩,yJ.out⟩
theorem quietsF_snoc (c:Cl) (o:Opn) (l:List Int) (g:Int):wY c o (l++[g])=quietF (wY c o l) g.toNat o:=by unfold wY; rw [List.foldl_append]; rfl
theorem uP {o:Opn} (hn:NumsIn o) (h1:o.parts=[]) (h2:o.reads=[]) (h3:o.writes=[]) (h4:o.data=[]):OpSz o:=⟨hn,by simp [h1],by simp [h2],by simp [h3],by simp [h4]⟩
theorem Bd.quiets {o:Opn} (ho:OpSz o):∀ (l:List Int) {c:Cl} {n:Nat},Bd n c→n+l.length≤1000000000→Bd (n+l.length) (wY c o l)
 | [],c,n,h,_=>h
 | g::l,c,n,h,hn=>by
  rw [List.length_cons] at hn ⊢
  have h1:=h.ask (by omega) g.toNat ho 0 true .quiet
  have h2:=Bd.quiets ho l (c:=quietF c g.toNat o) (n:=n+1) h1 (by omega)
  rw [show n+(l.length+1)=n+1+l.length by omega]
  exact h2
theorem groupsF_len (t:Txn):(xH t).length≤t.parts.length+t.asked.length:=by
 unfold xH
 refine Nat.le_trans (compI_le _) ?_
 rw [uS,List.length_append]; exact Nat.le_refl _
theorem zbV {G G' : Prop} (h : G') (f : Zh G'→G:=by intro h; (repeat (first|refine zF ?_|refine zB ?_|refine zE ?_|refine zK M M M ?_|refine zY M M M M M ?_|refine xD M M M (c':=(_::_::_::_::_::_::_::_::_::_::_::_::_::_::_::_::_::_::_::_::_::_::_::_::_::_::_::_::_::_::_::_::_::_::_::_::_::_::[])) M M M M ?_)); exact h.o) : G:=f ⟨h⟩
section
variable (w0:World) (X:Hp) (b tb:Nat) (c:Cl) (S:Hp) (n:Nat)
theorem uR (hS:kT w0 X b tb c S) (hB:Bd n c) (id value:Int) (l:List Int) (a:Option Addr) (cp:Nat) (hv:RdL w0 X (.slice a l.length cp) l) (hn:n+l.length≤1000000000) (hg:∀ g∈l,grp g) (hid:I64 id) (hval:I64 value) :
  yO Tryz.prog w0 119 [pB b,.int .i64 id,.slice a l.length cp,.int .i64 value] (X+S) (fun r h'=>Now w0 X b tb (jZ c id l value) h'):=by
 have hz:I64 0:=by unfold I64; omega
 have hosz:OpSz (endOp id value):=uP ⟨hz,hz,hid,hz,hz,hz,hz,hz,hz,hval,hz,hz⟩ rfl M M M
 obtain ⟨⟨vmem,vr0,vsets,vmr,vg,ve,vd,vrq,vop,vow,vw,vco,vou,van⟩,ps,hG,hE,hD,hR,hT,hK,hO,P,rfl⟩:=hS
 obtain ⟨eb,hve,hem⟩:=P.ended
 simp only at hve
 subst hve
 refine zN Tryz.func119 M Tryz.ntmps119 Tryz.results119 M fun fr=>?_
 refine zcH ?_
 refine kF M M (ev_mapSet (ρ:=keyI) M M M hem) ?_
 rintro _ _ ⟨hE2,hem2,rfl⟩
 have hem2:qT Tryz.prog eb (wC (vI c.ended) id (.int .i64 value)) hE2:=hem2
 rw [updA_vI] at hem2
 have hP:xT w0 X b { c with ended:=wC c.ended id value } ⟨vmem,vr0,vsets,vmr,vg,.map (some eb),vd,vrq,vop,vow,vw,vco,vou,van⟩ tb ps hG hE2 hD hR hT hK hO :=
  xT.mk P.mem P.rngs0 P.sets P.mr P.guess ⟨eb,rfl,hem2⟩ P.dbts P.reqs P.opn P.own P.txn P.waits P.coord P.out P.ansd
 have hB2:Bd n { c with ended:=wC c.ended id value }:=⟨hB.seq,hB.clock,hB.reqs,hB.ops,hB.out,hB.id⟩
 have hS0:=(⟨_,ps,hG,hE2,hD,hR,hT,hK,hO,hP,rfl⟩:kT w0 X b tb { c with ended:=wC c.ended id value } _)
 refine zaS ?_
 refine yN l.length (fun k g L=>∃ (S' R:Hp),g=[(0,pB b),(1,.int .i64 id),(3,.int .i64 value),(16,.slice a l.length cp),(17,.int .i64 l.length),(18,.int .i64 k)]∧kT w0 X b tb (wY { c with ended:=wC c.ended id value } (endOp id value) (l.take k)) S'∧L=X+S'+fr+R) _
  ⟨_,_,rfl,hS0,yJ.out⟩ zsb ?_
 rintro k g L hk ⟨S',R,rfl,hS',rfl⟩
 refine zaH ?_
 refine yF M M (yS M M) (fun n1=>?_) (fun n1=>?_)
 ·have hx:k<l.length:=by omega
  obtain ⟨bq,oq,rfl,e,rfl,hat⟩:=hv.at hx
  have hgk:=hg _ (List.getElem_mem hx)
  have hBk:=Bd.quiets hosz (l.take k) hB2 (by rw [List.length_take]; omega)
  have hq:=quiet_spec w0 X b tb _ S' _ hS' hBk (by rw [List.length_take]; omega) (l[k]).toNat (endOp id value) (wS (endOp id value) (.slice none 0 0) (.slice none 0 0) (.slice none 0 0) (.slice none 0 0)) ⟨none,0,none,0,none,0,none,0,rfl,RdL.nil _ _ _,RdL.nil _ _ _,RdL.nil _ _ _,RdL.nil _ _ _⟩
  rw [Int.toNat_of_nonneg hgk.1] at hq
  repeat (first|refine zF ?_|refine zR ?_|refine zB ?_|refine zE ?_|refine zK M M M ?_|refine zP ?_|refine zJ M ?_|refine kC M M (by omega) M M ?_|refine wA M (by assumption) M M M M ?_|refine yL (vs:=[_,_,_]) (cells:=[_,_,_,_,_,_,_,_,_,_,_,_,_,_,_,_,_]) M M M M ?_)
  refine zX M M (zQ M M M) hq ?_
  rintro _ _ ⟨S2,hS2,rfl⟩
  refine zaI ?_
  exact ⟨hx,_,zsb,S2,_,rfl,by rw [List.take_succ_eq_append_getElem hx,quietsF_snoc]; exact hS2,yJ.out⟩
 ·obtain rfl:k=l.length:=by omega
  rw [List.take_length] at hS'
  refine zbU ?_
  exact ⟨[],_,_,trivial,⟨S',hS',rfl⟩,yJ.out⟩
theorem losing_spec (hS:kT w0 X b tb c S) (hB:Bd n c) (hF:xG c) (hn:n+c.cur.parts.length+c.cur.asked.length+10≤1000000000) (ho:c.opn=true) (hid:I64 c.cur.id) (e:Int) :
  yO Tryz.prog w0 168 [pB b,.int .i64 e] (X+S) (fun r h'=>kP w0 X b tb (lostF c e) h'):=by
 have hz:I64 2:=by unfold I64; omega
 have had:gU c (if e=26 then wF c else c):=by split<;>first|exact qM c|exact gU.refl c
 have hkp:=vB had
 have hF1:=hF.adds had
 have hB1:Bd (n+1) (if e=26 then wF c else c):=by
  split
  ·unfold wF
   split
   ·exact hB.mono (by omega)
   ·exact Bd.ask (c:={ c with stale:=true }) ⟨hB.seq,hB.clock,hB.reqs,hB.ops,hB.out,hB.id⟩ (by omega) 0 (o:=op0 8) (uP (by unfold NumsIn I64; simp [op0]) M M M M) 0 true .look
  ·exact hB.mono (by omega)
 have hturn:=turn_spec w0 X b tb c S n hS hB (by omega)
 unfold lostF
 simp only
 refine zN Tryz.func168 M Tryz.ntmps168 Tryz.results168 M fun fr=>?_
 refine zaV ?_
 refine yG M M (yK M M) ?_
 repeat (refine zE ?_)
 refine jP (fun g' L'=>∃ (E S1 R:Hp),Sub g' [(0,pB b)]∧kT w0 (X+E) b tb (if e=26 then wF c else c) S1∧L'=X+E+S1+fr+R) ?_ ?_
 ·refine uU M (fun h=>?_) (fun h=>?_)
  ·refine zbQ ?_
   refine zX M M (zQ M M M) hturn ?_
   rintro _ _ ⟨E,S1,h1,rfl⟩
   repeat (refine zE ?_)
   exact ⟨E,S1,0,zsb,by rw [if_pos h]; exact h1,by rw [yA]⟩
  ·repeat (refine zP ?_)
   exact ⟨0,S,0,zsb,by rw [if_neg h,yA]; exact hS,by rw [yA,yA]⟩
 ·rintro g' _ ⟨E,S1,R,hsub,hS1,rfl⟩
  refine jV hsub ?_
  clear hsub g' hturn hS
  generalize (if e=26 then wF c else c)=c1 at *
  have hopn:c1.opn=true:=by rw [hkp.2.2.2.2.1,ho]
  have hcur:c1.cur=c.cur:=hkp.2.2.2.2.2.2.1
  obtain ⟨⟨vmem,vr0,vsets,vmr,vg,ve,vd,vrq,vop,vow,vw,vco,vou,van⟩,ps,hG,hE,hD,hR,hT,hK,hO,P,rfl⟩:=id hS1
  have hvo:=P.opn
  rw [hopn] at hvo
  simp only [wK,cond_true] at hvo
  subst hvo
  have hT2:uL w0 (X+E) tb c1.cur hT:=by
   rcases P.txn with h|h
   ·exact h
   ·rw [h.1] at hopn; cases hopn
  have hgs:=bJ w0 (X+E) tb c1.cur hT hT2 (by rw [hcur]; omega)
  obtain ⟨vr,va,vw',ap,cp,hr,ha,hw,rfl,k1,k2,k3,k4⟩:=id hT2
  repeat (refine zF ?_)
  refine yB [12,13] [0,1,2,3,4,5,6,7,8,9,10,11,12,13] (by kernel_rfl) M (by kernel_rfl) (by kernel_rfl) ?_
  refine zaF ?_
  have hgl:=groupsF_len c1.cur
  rw [hcur] at hgl
  refine xU M M M M (zQ M M M) hgs (xF.all _) ?_
  rintro _ _ ⟨k5,o5,rfl⟩
  obtain ⟨a5,c5,rfl⟩:=o5.shape
  refine ⟨zka,?_⟩
  skip
  have htd:=uR w0 (X+E+k5) b tb c1 _ (n+1) (hS1.mono M) hB1 c1.cur.id 2 (xH c1.cur) a5 c5 (o5.rd (X:=0) (R:=X+E)) (by rw [hcur]; omega) hF1.groups (by rw [hcur]; exact hid) hz
  refine xU M M M M (zQ M M M) htd (.drop (by kernel_rfl) (.drop (by kernel_rfl) (.drop (by kernel_rfl) .nil))) ?_
  rintro _ _ ⟨S2,h2,rfl⟩
  refine ⟨trivial,?_⟩
  generalize jZ c1 c1.cur.id (xH c1.cur) 2=c2 at *
  obtain ⟨⟨um,ur0,us,umr,ug,ue,ud,urq,uop,uow,uw,uco,uou,uan⟩,qs,jG,jE,jD,jR,jT,jK,jO,P2,rfl⟩:=h2
  repeat (refine yI ?_)
  refine zbV ?_
  have hP3:xT w0 (X+E+k5) b { c2 with opn:=false } ⟨um,ur0,us,umr,ug,ue,ud,urq,.pointer none,uow,uw,uco,uou,uan⟩ tb qs jG jE jD jR jT jK jO :=
   xT.mk P2.mem P2.rngs0 P2.sets P2.mr P2.guess P2.ended P2.dbts P2.reqs M P2.own (P2.txn.imp id fun h=>⟨rfl,h.2⟩) P2.waits P2.coord P2.out P2.ansd
  refine zX M M (zQ M M M) (xL w0 (X+E+k5) b tb { c2 with opn:=false } _ ⟨_,qs,jG,jE,jD,jR,jT,jK,jO,hP3,rfl⟩ 24) ?_
  rintro _ _ hA
  repeat (refine zE ?_)
  exact ⟨[],_,_,trivial,hA.after.trans.trans,yJ.out⟩
end
section
variable (w0:World) (X:Hp) (b tb:Nat) (c:Cl) (S:Hp) (n:Nat)
theorem CliL.after {w0:World} {X E S:Hp} {b tb p:Nat} {c:Cl} (H:CliL w0 (X+E) b tb c p S):kP w0 X b tb c (X+E+S):=⟨E,S,H.cli,rfl⟩
theorem asks_spec (hS:kT w0 X b tb c S) (hB:Bd n c) (hn:n≤1000000000) (g:Int) (hg:grp g) (o:Opn) (oe:List Value) (ho:Rep.rd w0 X o oe) (later:Int) (hl:0≤later∧later≤1) (hd:Hrd) (hv:Value) (hh:gT w0 X b tb hd hv) :
  yO Tryz.prog w0 222 [pB b,.int .i64 g,.agg oe.toArray,.int .i64 later,hv] (X+S) (fun r h'=>∃ p S',r=pB p∧CliL w0 X b tb (qJ c g.toNat o later false hd) p S'∧X+S'=h'):=by
 have:=ask_spec w0 X b tb c S hS g.toNat o oe ho later hd hv hh ⟨hB.seq.1,by have:=hB.seq.2; omega⟩ ⟨hB.clock.1,by have:=hB.clock.2; omega⟩ hl (by have:=hB.reqs; omega)
 rwa [Int.toNat_of_nonneg hg.1] at this
theorem rd_bare (o:Opn) (h1:o.parts=[]) (h2:o.reads=[]) (h3:o.writes=[]) (h4:o.data=[]):Rep.rd w0 X o (wS o (.slice none 0 0) (.slice none 0 0) (.slice none 0 0) (.slice none 0 0)):=by
 obtain ⟨k1,k2,k3,k4,k5,k6,k7,k8,k9,k10,k11,k12,k13,l1,l2,l3,l4⟩:=o
 simp only at h1 h2 h3 h4
 subst h1 h2 h3 h4
 exact ⟨none,0,none,0,none,0,none,0,rfl,RdL.nil _ _ _,RdL.nil _ _ _,RdL.nil _ _ _,RdL.nil _ _ _⟩
theorem changing_spec (hS:kT w0 X b tb c S) (hB:Bd n c) (hn:n≤1000000000) (x:Cal) (d:Value) (later:Int) (hl:0≤later∧later≤1) (hg:grp x.group) :
  yO Tryz.prog w0 164 [pB b,.agg (xW x d).toArray,.int .i64 later] (X+S) (fun r h'=>kP w0 X b tb (changeF c x later) h'):=by
 refine zN Tryz.func164 M Tryz.ntmps164 Tryz.results164 M fun fr=>?_
 repeat (first|refine zF ?_|refine zB ?_|refine zE ?_|refine zK M M M ?_|refine zY M M M M M ?_|refine yM M M M M M ?_|refine yL (vs:=[_,_,_]) (cells:=[_,_,_,_,_,_,_,_,_,_,_,_,_,_,_,_,_]) M M M M ?_|refine xN M (c:=[_]) M M M (fun _=>?_)|refine xN M (c:=[_,_,_,_,_,_,_,_,_,_,_,_,_]) M M M (fun _=>?_)|refine uI M M M ?_)
 rename_i b1 b2
 have hS2:kT w0 (X+(pt b1 (.cells [pB b].toArray 24 (0,0))+pt b2 (.cells (xW x d).toArray 41 (0,0)))) b tb c S:=hS.mono M
 have hask:=asks_spec w0 _ b tb c S n hS2 hB hn x.group hg ⟨11,0,0,0,0,0,0,0,0,0,x.value,0,x.node,[],[],[],[]⟩ _ (rd_bare w0 _ _ rfl M M M) later hl (.change x) _ ⟨b1,b2,d,rfl,jI,jI⟩
 refine zX M M (zQ M M M) hask ?_
 rintro _ _ ⟨p,S',rfl,hL,rfl⟩
 repeat (refine zE ?_)
 exact ⟨[],_,_,trivial,hL.after,yJ.out⟩
theorem freezing_spec (hS:kT w0 X b tb c S) (hB:Bd n c) (hn:n≤1000000000) (x:Cal) (d:Value) (ep later:Int) (hl:0≤later∧later≤1) (hg:grp x.src) :
  yO Tryz.prog w0 163 [pB b,.agg (xW x d).toArray,.int .i64 ep,.int .i64 later] (X+S) (fun r h'=>kP w0 X b tb (frzF c x ep later) h'):=by
 refine zN Tryz.func163 M Tryz.ntmps163 Tryz.results163 M fun fr=>?_
 repeat (first|refine zF ?_|refine zB ?_|refine zE ?_|refine zK M M M ?_|refine zY M M M M M ?_|refine yM M M M M M ?_|refine yL (vs:=[_,_,_,_]) (cells:=[_,_,_,_,_,_,_,_,_,_,_,_,_,_,_,_,_]) M M M M ?_|refine xN M (c:=[_]) M M M (fun _=>?_)|refine xN M (c:=[_,_,_,_,_,_,_,_,_,_,_,_,_]) M M M (fun _=>?_)|refine uI M M M ?_)
 rename_i b1 b2 b3
 have hS2:kT w0 (X+(pt b1 (.cells [pB b].toArray 24 (0,0))+(pt b2 (.cells (xW x d).toArray 41 (0,0))+pt b3 (.cells [.int .i64 ep].toArray 3 (0,0))))) b tb c S:=hS.mono M
 have hask:=asks_spec w0 _ b tb c S n hS2 hB hn x.src hg ⟨5,0,0,0,0,ep,x.lo,x.hi,0,0,0,0,0,[],[],[],[]⟩ _ (rd_bare w0 _ _ rfl M M M) later hl (.frz x ep) _ ⟨b1,b2,b3,d,rfl,jI,jI,jI⟩
 refine zX M M (zQ M M M) hask ?_
 rintro _ _ ⟨p,S',rfl,hL,rfl⟩
 repeat (refine zE ?_)
 exact ⟨[],_,_,trivial,hL.after,yJ.out⟩
theorem oking_spec (hS:kT w0 X b tb c S) (hB:Bd n c) (hn:n≤1000000000) (g:Int) (hg:grp g) (o:Opn) (oe:List Value) (ho:Rep.rd w0 X o oe) (k:Nat) (cap:Array Value) (hd:Hrd)
  (hh:∀ (Y:Hp) (p q:Nat),At w0 (X+Y) p 0 [pB b]→At w0 (X+Y) q 0 [.func (.func k) #[] cap]→gT w0 (X+Y) b tb hd (.func (.func 235) #[] [pB p,pB q].toArray)) :
  yO Tryz.prog w0 160 [pB b,.int .i64 g,.agg oe.toArray,.func (.func k) #[] cap] (X+S) (fun r h'=>kP w0 X b tb (qJ c g.toNat o 0 false hd) h'):=by
 have hoo:=id ho
 obtain ⟨a1,c1,a2,c2,a3,c3,a4,c4,rfl,-⟩:=hoo
 refine zN Tryz.func160 M Tryz.ntmps160 Tryz.results160 M fun fr=>?_
 repeat (first|refine zF ?_|refine zB ?_|refine zE ?_|refine zK M M M ?_|refine yM M M M M M ?_|refine xJ M (vs:=[_,_,_,_,_,_,_,_,_,_,_,_,_,_,_,_,_]) M M M M M ?_|refine xN M (c:=[_]) M M M (fun _=>?_)|refine xN M (c:=[_,_,_,_,_,_,_,_,_,_,_,_,_,_,_,_,_]) M M M (fun _=>?_)|refine uI M M M ?_)
 rename_i b1 b2 b3
 have hS2:kT w0 (X+(pt b1 (.cells [pB b].toArray 24 (0,0))+pt b3 (.cells [.func (.func k) #[] cap].toArray 143 (0,0)))) b tb c S:=hS.mono M
 have hask:=asks_spec w0 _ b tb c S n hS2 hB hn g hg o _ (Rep.mono M ho) 0 (by omega) hd _ (hh _ b1 b3 jI jI)
 refine zX M M (zQ M M M) hask ?_
 rintro _ _ ⟨p,S',rfl,hL,rfl⟩
 repeat (refine zE ?_)
 exact ⟨[],_,_,trivial,hL.after,yJ.out⟩
end
theorem zeO {G G' : Prop} (h : G') (f : Zh G'→G:=by intro h; (repeat (first|refine zB ?_|refine zE ?_|refine zK M M M ?_|refine zY M M M M M ?_|refine yM M M M M M ?_|refine zI M ?_|refine wA M (by assumption) M M M M ?_)); exact h.o) : G:=f ⟨h⟩
theorem zdO {G G' : Prop} (h : G') (f : Zh G'→G:=by intro h; (repeat (first|refine zB ?_|refine zE ?_|refine zK M M M ?_|refine zJ M ?_|refine wA M (by assumption) M M M M ?_|refine vU M (by assumption) M M M M ?_)); exact h.o) : G:=f ⟨h⟩
theorem zbI {G G' : Prop} (h : G') (f : Zh G'→G:=by intro h; (repeat (first|refine zE ?_|refine zM ?_)); exact h.o) : G:=f ⟨h⟩
section
variable (w0:World) (X:Hp) (b tb:Nat) (c:Cl) (S:Hp) (n:Nat)
theorem installing_spec (hS:kT w0 X b tb c S) (hB:Bd n c) (hn:n≤1000000000) (x:Cal) (d:Value) (ep:Int) (hg:grp x.dst) (l:List Bt) (ad:Option Addr) (cp:Nat) (hl:RdL w0 X (.slice ad l.length cp) l) :
  yO Tryz.prog w0 239 [pB b,.agg (xW x d).toArray,.int .i64 ep,.slice ad l.length cp] (X+S) (fun r h'=>kP w0 X b tb (instF c x ep l) h'):=by
 refine zN Tryz.func239 M Tryz.ntmps239 Tryz.results239 M fun fr=>?_
 repeat (first|refine zF ?_|refine zB ?_|refine zE ?_|refine zK M M M ?_|refine zY M M M M M ?_|refine yM M M M M M ?_|refine yL (vs:=[_,_,_,_,_]) (cells:=[_,_,_,_,_,_,_,_,_,_,_,_,_,_,_,_,_]) M M M M ?_|refine xN M (c:=[_]) M M M (fun _=>?_)|refine xN M (c:=[_,_,_,_,_,_,_,_,_,_,_,_,_]) M M M (fun _=>?_)|refine uI M M M ?_)
 rename_i b1 b2 b3
 have hS2:kT w0 (X+(pt b1 (.cells [pB b].toArray 24 (0,0))+(pt b2 (.cells (xW x d).toArray 41 (0,0))+pt b3 (.cells [.int .i64 ep].toArray 3 (0,0))))) b tb c S:=hS.mono M
 have ho:Rep.rd w0 (X+(pt b1 (.cells [pB b].toArray 24 (0,0))+(pt b2 (.cells (xW x d).toArray 41 (0,0))+pt b3 (.cells [.int .i64 ep].toArray 3 (0,0))))) (⟨6,0,0,0,0,ep,x.lo,x.hi,0,0,0,0,0,[],[],[],l⟩:Opn) [.int .i64 6,.int .i64 0,.int .i64 0,.int .i64 0,.int .i64 0,.int .i64 ep,.int .i64 x.lo,.int .i64 x.hi,.int .i64 0,.int .i64 0,.int .i64 0,.int .i64 0,.int .i64 0,.slice none 0 0,.slice none 0 0,.slice none 0 0,.slice ad l.length cp] :=
  ⟨none,0,none,0,none,0,ad,cp,rfl,RdL.nil _ _ _,RdL.nil _ _ _,RdL.nil _ _ _,hl.mono M⟩
 have hok:=oking_spec w0 _ b tb c S n hS2 hB hn x.dst hg _ _ ho 299 [pB b1,pB b3,pB b2].toArray (.inst x ep) (fun Y p q h1 h2=>⟨p,q,b1,b3,b2,d,rfl,h1,h2,jI,jI,jI⟩)
 refine zX M M (zQ M M M) hok ?_
 rintro _ _ hA
 repeat (refine zE ?_)
 exact ⟨[],_,_,trivial,hA.trans,yJ.out⟩
theorem keeping_spec (hS:kT w0 X b tb c S) (hB:Bd n c) (hn:n≤1000000000) (hF:xG c) (hm:c.m.rngs.length≤1000000000) (x:Cal) (d:Value) (later:Int) (hl:0≤later∧later≤1) :
  yO Tryz.prog w0 157 [pB b,.agg (xW x d).toArray,.int .i64 later] (X+S) (fun r h'=>kP w0 X b tb (keptF c x later) h'):=by
 have hgr:=findR_grp hF x.block
 obtain ⟨⟨vmem,vr0,vsets,vmr,vg,ve,vd,vrq,vop,vow,vw,vco,vou,van⟩,ps,hG,hE,hD,hR,hT,hK,hO,P,rfl⟩:=id hS
 obtain ⟨am,cm,hvm,hrm⟩:=P.mr
 simp only at hvm
 subst hvm
 have hfind:=find_spec w0 X c.m.rngs am cm c.m.epoch c.m.m1 c.m.m2 c.m.m3 c.m.m4 c.m.m5 x.block hrm hm
 refine zN Tryz.func157 M Tryz.ntmps157 Tryz.results157 M fun fr=>?_
 repeat (first|refine zF ?_|refine zB ?_|refine zE ?_|refine xN M (c:=[_]) M M M (fun _=>?_)|refine xN M (c:=[_,_,_,_,_,_,_,_,_,_,_,_,_]) M M M (fun _=>?_))
 rename_i b1 b2
 refine dX [6,10,11] [0,1,2,3,4,5,6,7,8,9,10,11,12] 10 6 [.int .i64 0,.int .i64 0,.int .i64 0,.int .i64 0] 80 (by kernel_rfl) M (by kernel_rfl) (by kernel_rfl) (by kernel_rfl) ?_
 repeat (first|refine V_of M M (fun _=>rfl) M M M M ?_|refine V_pure M (zZ M M M) (fun _=>zZ M M M) M M M M ?_|refine V_load M M (fun _=>rfl) (zG M (zS M)) M M M M ?_|refine V_load M M (fun _=>rfl) (zL (vs:=[_,_,_,_,_,_,_]) M M M) M M M M ?_)
 refine V_call M M M M M (zQ M M M) (fun _=>zQ M M M) hfind (xF.all _) M M M M ?_
 rintro _ _ ⟨rfl,rfl⟩
 refine ⟨zka,?_⟩
 repeat (refine V_of M M (fun _=>rfl) M M M M ?_)
 refine V_now M M M M (fun b7=>?_)
 skip
 refine xS M M M M (wH (vs:=[_,_,_,_]) M M M M (c:=[_,_,_,_]) (Nat.le_of_ble_eq_true M) (c':=[_,_,_,_]) M) (xF.all _) ?_
 rintro _ _ rfl
 refine ⟨zka,?_⟩
 refine zaD ?_
 repeat (first|refine zB ?_|refine zK M M M ?_|refine zY M M M M M ?_|refine yM M M M M M ?_|refine yL (vs:=[_,_,_,_]) (cells:=[_,_,_,_,_,_,_,_,_,_,_,_,_,_,_,_,_]) M M M M ?_|refine uI M M M ?_)
 have hS2:kT w0 (X+(pt b1 (.cells [pB b].toArray 24 (0,0))+pt b2 (.cells (xW x d).toArray 41 (0,0)))) b tb c _:=hS.mono M
 have hask:=asks_spec w0 _ b tb c _ n hS2 hB hn _ hgr (keptOp x (dN c.m.rngs x.block).1) _ (rd_bare w0 _ _ rfl M M M) later hl (.kept x) _ ⟨b1,b2,d,rfl,jI,jI⟩
 refine zX M M (zQ M M M) hask ?_
 rintro _ _ ⟨p,S',rfl,hL,rfl⟩
 repeat (refine zE ?_)
 exact ⟨[],_,_,trivial,hL.after,yJ.out⟩
theorem mapping_spec (hS:kT w0 X b tb c S) (w:Wts) (k:Nat) [hk:Fun Tryz.prog k] (cap:List Value) (hw:WaitAt w0 X b tb (some w) (.func (.func k) #[] cap.toArray)) (hrun:c.stale=false→yO Tryz.prog w0 k cap (X+S) (fun r h'=>kP w0 X b tb (runW c w) h')) :
  yO Tryz.prog w0 146 [pB b,.func (.func k) #[] cap.toArray] (X+S) (fun r h'=>kP w0 X b tb (vE c w) h'):=by
 obtain ⟨⟨vmem,vr0,vsets,vmr,vg,ve,vd,vrq,vop,vow,vw,vco,vou,van⟩,ps,hG,hE,hD,hR,hT,hK,hO,P,rfl⟩:=hS
 have m1:c.stale=true→vE c w={ c with waits:=some w }:=fun h=>by unfold vE; rw [if_pos h]
 have m2:c.stale=false→vE c w=runW c w:=fun h=>by unfold vE; rw [if_neg (by rw [h]; simp)]
 refine zN Tryz.func146 M Tryz.ntmps146 Tryz.results146 M fun fr=>?_
 refine zbA ?_
 refine gS (t:=c.stale) M (fun hst=>?_) (fun hst=>?_)
 ·rw [m1 hst]
  refine zeK ?_
  have hP:xT w0 X b { c with waits:=some w } ⟨vmem,vr0,vsets,vmr,vg,ve,vd,vrq,vop,vow,.func (.func k) #[] cap.toArray,vco,vou,van⟩ tb ps hG hE hD hR hT hK hO :=
   xT.mk P.mem P.rngs0 P.sets P.mr P.guess P.ended P.dbts P.reqs P.opn P.own P.txn hw P.coord P.out P.ansd
  change retD Tryz.prog w0 [] fr (fun r h'=>kP w0 X b tb { c with waits:=some w } h') .ret _ _
  exact ret_cli [] trivial hP (by exact rfl) hP.now.after
 ·rw [m2 hst]
  repeat (first|refine zB ?_|refine zK M M M ?_|refine zP ?_)
  refine zX M M (zQ M M (by simp<;>rfl)) (hrun hst) ?_
  rintro _ _ hA
  repeat (refine zE ?_)
  exact ⟨[],_,_,trivial,hA,yJ.out⟩
theorem parting_spec (hS:kT w0 X b tb c S) (hB:Bd n c) (hn:n≤1000000000) (t:Value) (ht:∃ ad,t=.pointer ad) (o:Opn) (oe:List Value) (ho:Rep.rd w0 X o oe) (g:Int) (hg:grp g) (later:Int) (hl:0≤later∧later≤1) :
  yO Tryz.prog w0 230 [pB b,t,.agg oe.toArray,.int .i64 g,.int .i64 later] (X+S) (fun r h'=>kP w0 X b tb (partF c o g later) h'):=by
 have hoo:=id ho
 obtain ⟨a1,c1,a2,c2,a3,c3,a4,c4,rfl,-⟩:=hoo
 obtain ⟨adt,rfl⟩:=ht
 refine zN Tryz.func230 M Tryz.ntmps230 Tryz.results230 M fun fr=>?_
 repeat (first|refine zF ?_|refine zB ?_|refine zE ?_|refine zK M M M ?_|refine yM M M M M M ?_|refine xJ M (vs:=[_,_,_,_,_,_,_,_,_,_,_,_,_,_,_,_,_]) M M M M M ?_|refine xN M (c:=[_]) M M M (fun _=>?_)|refine xN M (c:=[_,_,_,_,_,_,_,_,_,_,_,_,_,_,_,_,_]) M M M (fun _=>?_)|refine uI M M M ?_)
 rename_i b1 b2 b3 b4
 have hS2:kT w0 (X+(pt b1 (.cells [pB b].toArray 24 (0,0))+(pt b2 (.cells [.pointer adt].toArray 92 (0,0))+(pt b3 (.cells (wS o (.slice a1 o.parts.length c1) (.slice a2 o.reads.length c2) (.slice a3 o.writes.length c3) (.slice a4 o.data.length c4)).toArray 63 (0,0))+pt b4 (.cells [.int .i64 g].toArray 3 (0,0)))))) b tb c S:=hS.mono M
 have hask:=asks_spec w0 _ b tb c S n hS2 hB hn g hg o _ (Rep.mono M ho) later hl (.part o g) _ ⟨b1,b2,b3,b4,adt,_,rfl,jI,jI,jI,Rep.mono M ho,jI⟩
 refine zX M M (zQ M M M) hask ?_
 rintro _ _ ⟨p,S',rfl,hL,rfl⟩
 repeat (refine zE ?_)
 exact ⟨[],_,_,trivial,hL.after,yJ.out⟩
variable (r:Res) (ad:Option Addr) (cp:Nat)
theorem change1_spec (hS:kT w0 X b tb c S) (hB:Bd n c) (hn:n≤1000000000) (hr:RdL w0 X (.slice ad r.data.length cp) r.data) (x:Cal) (d:Value) (hg:grp x.group) (p q:Nat) (hp:At w0 X p 0 [pB b]) (hq:At w0 X q 0 (xW x d)) :
  yO Tryz.prog w0 240 [.agg [.int .i64 r.code,.slice ad r.data.length cp].toArray,pB p,pB q] (X+S) (fun v h'=>kP w0 X b tb (xX c (.change x) r) h'):=by
 refine zN Tryz.func240 M Tryz.ntmps240 Tryz.results240 M fun fr=>?_
 repeat (first|refine zF ?_|refine zB ?_|refine zE ?_|refine zY M M M M M ?_|refine yM M M M M M ?_|refine xN M (c:=[_,_]) M M M (fun _=>?_))
 refine yF M M (yK M M) (fun h=>?_) (fun h=>?_)
 ·simp only [xX,if_pos h]
  repeat (first|refine zF ?_|refine zB ?_|refine zE ?_|refine zJ M ?_|refine wA M (by assumption) M M M M ?_|refine vU M (by assumption) M M M M ?_)
  refine zX M M (zQ M M M) (changing_spec w0 X b tb c S n hS hB hn x d 1 (by omega) hg) ?_
  rintro _ _ hA
  refine zbI ?_
  exact ⟨[],_,_,trivial,hA,yJ.out⟩
 ·simp only [xX,if_neg h]
  repeat (first|refine zB ?_|refine zE ?_|refine zY M M M M M ?_|refine yM M M M M M ?_|refine zP ?_|refine zI M ?_|refine wA M (by assumption) M M M M ?_)
  refine zX M M (zQ M M M) (xL w0 X b tb c S hS r.code) ?_
  rintro _ _ hA
  repeat (refine zE ?_)
  exact ⟨[],_,_,trivial,hA.after,yJ.out⟩
theorem freeze1_spec (hS:kT w0 X b tb c S) (hB:Bd n c) (hn:n≤1000000000) (hr:RdL w0 X (.slice ad r.data.length cp) r.data) (x:Cal) (d:Value) (ep:Int) (hg:grp x.src) (hg2:grp x.dst) (p q s:Nat) (hp:At w0 X p 0 [pB b]) (hq:At w0 X q 0 (xW x d)) (hs:At w0 X s 0 [.int .i64 ep]) :
  yO Tryz.prog w0 238 [.agg [.int .i64 r.code,.slice ad r.data.length cp].toArray,pB p,pB q,pB s] (X+S) (fun v h'=>kP w0 X b tb (xX c (.frz x ep) r) h'):=by
 refine zN Tryz.func238 M Tryz.ntmps238 Tryz.results238 M fun fr=>?_
 repeat (first|refine zF ?_|refine zR ?_|refine zB ?_|refine zE ?_|refine zY M M M M M ?_|refine yM M M M M M ?_|refine xN M (c:=[_,_]) M M M (fun _=>?_))
 refine yF M M (yK M M) (fun h=>?_) (fun h=>?_)
 ·simp only [xX,if_pos h]
  repeat (first|refine zB ?_|refine zE ?_|refine zK M M M ?_|refine zY M M M M M ?_|refine yM M M M M M ?_|refine zJ M ?_|refine wA M (by assumption) M M M M ?_|refine vU M (by assumption) M M M M ?_)
  refine zX M M (zQ M M M) (installing_spec w0 X b tb c S n hS hB hn x d ep hg2 r.data ad cp hr) ?_
  rintro _ _ hA
  repeat (refine zE ?_)
  exact ⟨[],_,_,trivial,hA,yJ.out⟩
 ·simp only [xX,if_neg h]
  refine zaA ?_
  refine yF M M (yK M M) (fun h2=>?_) (fun h2=>?_)
  ·simp only [if_pos h2]
   refine zdO ?_
   refine zX M M (zQ M M M) (freezing_spec w0 X b tb c S n hS hB hn x d ep 1 (by omega) hg) ?_
   rintro _ _ hA
   repeat (refine zE ?_)
   exact ⟨[],_,_,trivial,hA,yJ.out⟩
  ·simp only [if_neg h2]
   refine zeO ?_
   refine zX M M (zQ M M M) (xL w0 X b tb c S hS r.code) ?_
   rintro _ _ hA
   repeat (refine zE ?_)
   exact ⟨[],_,_,trivial,hA.after,yJ.out⟩
end
set_option maxHeartbeats 16000000
structure GRq where
 blk:Nat
 rq:Rq
instance repGRq :Rep GRq where
 tid:=142
 size:=1
 rd:=fun _ _ x e=>e=[pB x.blk]
 len:=by rintro _ _ _ _ rfl; rfl
 one:=by rintro _ _ _ _ rfl u hu; simp at hu; subst hu; rfl
 mono:=fun _ h=>h
def zipG (ps:List PRq) (rs:List Rq):List GRq:=(ps.zip rs).map fun p=>⟨p.1.blk,p.2⟩
def ptrG (xs:List GRq):List PRq:=xs.map fun x=>⟨x.blk⟩
theorem rdG_enc {w0:World} {L:Hp} {xs:List GRq} {es:List (List Value)}:kU (Rep.rd w0 L) xs es↔es=xs.map fun x=>[pB x.blk]:=kU.enc (fun _ _=>Iff.rfl)
theorem rdP_enc {w0:World} {L:Hp} {xs:List PRq} {es:List (List Value)}:kU (Rep.rd w0 L) xs es↔es=xs.map fun x=>[pB x.blk]:=kU.enc (fun _ _=>Iff.rfl)
theorem OwL.toG {w0:World} {X Y h:Hp} {ps:List PRq} {v:Value} (xs:List GRq) (hx:ptrG xs=ps) (H:OwL w0 X ps v h):OwL w0 Y xs v h:=by
 obtain ⟨es,h1,h2⟩:=H
 refine ⟨es,h1,rdG_enc.2 ?_⟩
 rw [rdP_enc.1 h2,← hx]; simp [ptrG]
theorem OwL.ofG {w0:World} {X Y h:Hp} {xs:List GRq} {v:Value} (H:OwL w0 X xs v h):OwL w0 Y (ptrG xs) v h:=by
 obtain ⟨es,h1,h2⟩:=H
 refine ⟨es,h1,rdP_enc.2 ?_⟩
 rw [rdG_enc.1 h2]; simp [ptrG]
theorem ptr_zip :∀ {ps:List PRq} {rs:List Rq},ps.length=rs.length→ptrG (zipG ps rs)=ps
 | [],[],_=>rfl
 | p::ps,r::rs,h=>by
  have:=ptr_zip (ps:=ps) (rs:=rs) (by simpa using h)
  simp only [ptrG,zipG,List.zip_cons_cons,List.map_cons] at this ⊢
  rw [this]
 | [],_::_,h=>by simp at h
 | _::_,[],h=>by simp at h
theorem rq_zip :∀ {ps:List PRq} {rs:List Rq},ps.length=rs.length→(zipG ps rs).map (·.rq)=rs
 | [],[],_=>rfl
 | p::ps,r::rs,h=>by
  have:=rq_zip (ps:=ps) (rs:=rs) (by simpa using h)
  simp only [zipG,List.zip_cons_cons,List.map_cons] at this ⊢
  rw [this]
 | [],_::_,h=>by simp at h
 | _::_,[],h=>by simp at h
def gZ (w0:World) (X:Hp) (b tb:Nat):List GRq→Hp→Prop
 | [],h=>h=0
 | x::xs,h=>∃ h1 h2,RqAt w0 X b tb x.blk x.rq h1∧gZ w0 X b tb xs h2∧h=h1+h2
section
variable {w0:World} {X:Hp} {b tb:Nat}
theorem gZ.of :∀ {ps:List PRq} {rs:List Rq} {h:Hp},wX w0 X b tb ps rs h→gZ w0 X b tb (zipG ps rs) h
 | [],[],_,H=>H
 | p::ps,r::rs,_,⟨h1,h2,a,c,d⟩=>⟨h1,h2,a,gZ.of c,d⟩
 | [],_::_,_,H=>H.elim
 | _::_,[],_,H=>H.elim
theorem gZ.to :∀ {xs:List GRq} {h:Hp},gZ w0 X b tb xs h→wX w0 X b tb (ptrG xs) (xs.map (·.rq)) h
 | [],_,H=>H
 | x::xs,_,⟨h1,h2,a,c,d⟩=>⟨h1,h2,a,gZ.to c,d⟩
theorem gZ.mem :∀ {xs:List GRq} {h:Hp},gZ w0 X b tb xs h→∀ {x:GRq},x∈xs→∃ h1 h2,RqAt w0 X b tb x.blk x.rq h1∧h=h1+h2
 | [],_,_,y,hy=>absurd hy (by simp)
 | x::xs,_,⟨h1,h2,a,c,d⟩,y,hy=>by
  rcases List.mem_cons.1 hy with rfl|hy
  ·exact ⟨h1,h2,a,d⟩
  ·obtain ⟨g1,g2,e1,e2⟩:=gZ.mem c hy
   exact ⟨g1,h1+g2,e1,by rw [d,e2]; ac_rfl⟩
theorem gZ.filter (p:GRq→Bool):∀ {xs:List GRq} {h:Hp},gZ w0 X b tb xs h→∃ h1 h2,gZ w0 X b tb (xs.filter p) h1∧h=h1+h2
 | [],h,H=>⟨0,0,rfl,Eq.trans (show h=0 from H) (yA 0).symm⟩
 | x::xs,_,⟨h1,h2,a,c,d⟩=>by
  obtain ⟨g1,g2,e1,e2⟩:=gZ.filter p c
  by_cases hp:p x=true
  ·rw [List.filter_cons_of_pos hp]
   exact ⟨h1+g1,g2,⟨h1,g1,a,e1,rfl⟩,by rw [d,e2]; ac_rfl⟩
  ·rw [List.filter_cons_of_neg hp]
   exact ⟨g1,h1+g2,e1,by rw [d,e2]; ac_rfl⟩
end
theorem indexFuncG_spec (w0:World) (X:Hp) (v:Value) (xs:List GRq) (k0:Nat) [hf:Fun Tryz.prog k0] (caps:List Value) (p:GRq→Bool) (hv:RdL w0 X v xs) (hl:xs.length≤1000000000)
  (hp:∀ Y x e,x∈xs→Rep.rd w0 Y x e→yO Tryz.prog w0 k0 (pB x.blk::caps) X (fun r h'=>r=.bool (p x)∧X=h')) :
  yO Tryz.prog w0 109 [v,.func (.func k0) #[] caps.toArray] X (fun r h'=>r=.int .i64 (qG p xs)∧X=h'):=by
 obtain ⟨a,c,rfl⟩:=hv.shape
 refine zN Tryz.func109 M Tryz.ntmps109 Tryz.results109 M fun fr=>?_
 refine zaS ?_
 refine yN xs.length (fun k g L=>∃ R:Hp,g=[(0,.slice a xs.length c),(1,.func (.func k0) #[] caps.toArray),(7,.int .i64 xs.length),(8,.int .i64 k)]∧L=X+fr+R∧∀ x∈xs.take k,p x=false) _ ⟨0,rfl,(yA _).symm,by simp⟩ zsb ?_
 rintro k g L hk ⟨R,rfl,rfl,hpre⟩
 refine zaH ?_
 refine yF M M (yS M M) (fun h2=>?_) (fun h2=>?_)
 ·have hx:k<xs.length:=by omega
  obtain ⟨b2,o2,rfl,e,hre,hat⟩:=hv.at hx
  obtain rfl:=id hre
  refine zaT ?_
  refine zX M M (zQ M M (by simp<;>rfl)) (hp X xs[k] _ (List.getElem_mem hx) hre) ?_
  rintro _ _ ⟨rfl,rfl⟩
  cases h3:p xs[k]
  ·refine zaJ ?_
   exact ⟨hx,_,zsb,_,rfl,yJ.out,vG hx hpre h3⟩
  ·refine zaB ?_
   exact ⟨[_],X,_,⟨rfl,trivial⟩,⟨by rw [dM hx h3 hpre]; rfl,rfl⟩,yJ.out⟩
 ·refine zaK ?_
  rw [List.take_of_length_le (by omega)] at hpre
  exact ⟨[_],X,_,⟨rfl,trivial⟩,⟨by rw [qV hpre]; rfl,rfl⟩,yJ.out⟩
theorem zeP {G G' : Prop} (h : G') (f : Zh G'→G:=by intro h; (repeat (first|refine zF ?_|refine zR ?_|refine zB ?_|refine zE ?_|refine zK M M M ?_|refine zP ?_|refine zI M ?_|refine yU M M (by omega) (by omega) M M ?_)); exact h.o) : G:=f ⟨h⟩
theorem deleteFuncG_spec (w0:World) (X:Hp) (xs:List GRq) (v:Value) (h:Hp) (k0:Nat) [hf:Fun Tryz.prog k0] (caps:List Value) (p:GRq→Bool) (hr:OwL w0 X xs v h) (hl:xs.length≤1000000000)
  (hp:∀ Y x e,x∈xs→Rep.rd w0 Y x e→yO Tryz.prog w0 k0 (pB x.blk::caps) X (fun r h'=>r=.bool (p x)∧X=h')) :
  yO Tryz.prog w0 112 [v,.func (.func k0) #[] caps.toArray] (X+h) (fun r h'=>∃ h2,OwL w0 X (xs.filter fun x=>!p x) r h2∧X+h2=h'):=by
 have hif:=indexFuncG_spec w0 (X+h) v xs k0 caps p hr.rd0 hl (fun Y x e hx he=>yO.frameL M (hp Y x e hx he))
 obtain ⟨es,h1,h2⟩:=id hr
 obtain ⟨a,c,rfl⟩:=hr.shape
 have hlen:=h2.length
 refine zN Tryz.func112 M Tryz.ntmps112 Tryz.results112 M fun fr=>?_
 refine zaC ?_
 refine zX M M (zQ M M M) hif ?_
 rintro _ _ ⟨rfl,rfl⟩
 refine zaC ?_
 rcases uF p xs with ⟨hi,hall⟩|⟨i0,hi0,hi,hpi,hall⟩
 ·rw [hi]
  refine kD M M (yK M M) M ?_
  refine zaB ?_
  exact ⟨[_],X+h,_,⟨rfl,trivial⟩,⟨h,by rw [List.filter_eq_self.2 (fun x hx=>by rw [hall x hx]; rfl)]; exact hr,rfl⟩,yJ.out⟩
 ·rw [hi]
  refine yP M M (yK M M) (by omega) ?_
  refine zeP ?_
  obtain ⟨b,cap,spare,e1,rfl,hes,hcap,hmax,hsp⟩:=h1.nonempty (by intro e; subst e; simp at hlen; omega)
  simp only [Value.slice.injEq] at e1
  obtain ⟨rfl,-,rfl⟩:=e1
  rw [hlen] at hcap hsp
  change spare.length=(c - xs.length)*1 at hsp
  have hei0:i0<es.length:=by omega
  refine gR (fun m g L=>∃ (i j:Nat) (fs ms:List (List Value)) (R:Hp),fs.length=i∧i+ms.length=j∧i<j∧j≤xs.length∧m=xs.length - j ∧
    g=[(0,.slice (some ⟨b,0,none⟩) xs.length c),(1,.func (.func k0) #[] caps.toArray),(5,.int .i64 i),(6,.int .i64 j)] ∧
    kU (Rep.rd w0 X) ((xs.take j).filter fun x=>!p x) fs∧(∀ e∈ms,e.length=1) ∧
    L=X+pt b (.cells ((fs++(ms++es.drop j)).flatten++spare).toArray 142 (0,0))+fr+R) _ _
   ⟨i0,i0+1,es.take i0,[es[i0]],0,by rw [List.length_take]; omega,by simp,by omega,by omega,rfl,rfl,?_,?_,?_⟩ zsb ?_
  ·rw [List.take_succ_eq_append_getElem hi0,List.filter_append,List.filter_cons,hpi,List.filter_nil]
   simp only [Bool.not_true,Bool.false_eq_true,if_false,List.append_nil]
   rw [List.filter_eq_self.2 (fun x hx=>by rw [hall x hx]; rfl)]
   exact h2.take i0
  ·intro e he
   rw [List.mem_singleton] at he; subst he
   exact hes _ (List.getElem_mem hei0)
  ·rw [show es.take i0++([es[i0]]++es.drop (i0+1))=es by rw [List.singleton_append,← List.drop_eq_getElem_cons hei0,List.take_append_drop],yA]
   rfl
  rintro m g L ⟨i,j,fs,ms,R,rfl,hms,hij,hj,rfl,rfl,hfs,hmz,rfl⟩
  have hfl:∀ e∈fs,e.length=1:=hfs.lens
  have hcur:∀ e∈fs++(ms++es.drop j),e.length=1:=by
   intro e he
   rcases List.mem_append.1 he with he|he
   ·exact hfl e he
   ·rcases List.mem_append.1 he with he|he
    ·exact hmz e he
    ·exact hes e (List.mem_of_mem_drop he)
  refine zaP ?_
  refine yF M M (yS M M) (fun n2=>?_) (fun n2=>?_)
  ·have hx:j<xs.length:=by omega
   obtain ⟨e,hej,hre⟩:=h2.get hx
   have hcj:(fs++(ms++es.drop j))[j]?=some e:=by
    rw [List.getElem?_append_right (by omega),List.getElem?_append_right (by omega),List.getElem?_drop,← hej]
    congr 1; omega
   have hat:At w0 _ b (0+j*1) e:=at_row (spare:=spare) (E:=142) (fz:=(0,0)) hcur hcj
   have hd:es.drop j=e::es.drop (j+1):=by
    have:j<es.length:=by omega
    rw [List.drop_eq_getElem_cons this]
    rw [List.getElem?_eq_getElem this] at hej
    rw [Option.some.inj hej]
   have htk:(xs.take (j+1)).filter (fun x=>!p x)=(xs.take j).filter (fun x=>!p x)++(if p xs[j]=true then [] else [xs[j]]):=by
    rw [List.take_succ_eq_append_getElem hx,List.filter_append]
    congr 1
    by_cases h:p xs[j]=true<;>simp [h]
   have hel:=Rep.len hre
   obtain rfl:=id hre
   refine zaT ?_
   refine zX M M (zQ M M (by simp<;>rfl)) (hp X xs[j] _ (List.getElem_mem hx) hre) ?_
   rintro _ _ ⟨rfl,rfl⟩
   cases h3:p xs[j]
   ·rw [if_neg (by rw [h3]; simp)] at htk
    obtain ⟨r0,rs,hr0,hrl,ms',hms',hml⟩:∃ r0 rs,ms++es.drop j=r0::rs∧r0.length=1∧∃ ms',rs=ms'++es.drop (j+1)∧ms'.length=ms.length:=by
     cases ms with
     | nil=>exact ⟨_,_,hd,hel,[],rfl,rfl⟩
     | cons m0 ms1=>exact ⟨m0,ms1++es.drop j,rfl,hmz m0 (by simp),ms1++(es.drop j).take 1,by rw [hd]; simp,by rw [hd]; simp⟩
    have hmz':∀ e∈ms',e.length=1:=by
     intro e' he'
     exact hcur e' (List.mem_append_right _ (by rw [hr0,hms']; exact List.mem_cons_of_mem _ (List.mem_append_left _ he')))
    rw [hr0]
    repeat (first|refine zF ?_|refine zB ?_|refine zE ?_|refine zK M M M ?_|refine zJ M ?_|refine kC M M (by omega) M M ?_)
    refine kF M M (kA (c:=(fs++r0::rs).flatten++spare) (c':=(fs++[[pB xs[j].blk]]++rs).flatten++spare) M M M M (set_row1_get hfl hrl) (set_row1 hfl hrl)) ?_
    rintro _ _ rfl
    refine zaI ?_
    exact ⟨xs.length - (j+1),_,by omega,zsb,fs.length+1,j+1,fs++[_],ms',_,by simp,by omega,by omega,by omega,rfl,rfl,by rw [htk]; exact hfs.append (kU.one hre),hmz',by rw [← hms']; exact yJ.out⟩
   ·rw [if_pos h3,List.append_nil] at htk
    refine zaJ ?_
    refine ⟨xs.length - (j+1),_,by omega,zsb,fs.length,j+1,fs,ms++[_],_,rfl,by simp; omega,by omega,by omega,rfl,rfl,by rw [htk]; exact hfs,?_,by rw [List.append_assoc ms,List.singleton_append,← hd]; exact yJ.out⟩
    intro e' he'
    rcases List.mem_append.1 he' with he'|he'
    ·exact hmz e' he'
    ·rw [List.mem_singleton] at he'; subst he'; exact hel
  ·obtain rfl:j=xs.length:=by omega
   rw [List.take_length] at hfs
   rw [List.drop_of_length_le (by omega),List.append_nil]
   refine zbB ?_
   refine yG M M (vP (l:=fs.length) M M (by omega)) ?_
   rw [vH (b:=b) (l:=fs.length) (cap:=c) (by omega)]
   have lf:fs.flatten.length=fs.length*1:=jL hfl
   have lm:ms.flatten.length=ms.length*1:=jL hmz
   refine kF M M (ev_clearZ M M M (by rw [List.length_append,List.flatten_append,List.length_append,lf,lm]; omega)) ?_
   rintro _ _ ⟨zs,hzs,rfl⟩
   rw [show 0+fs.length*1=fs.flatten.length by omega,List.flatten_append,List.append_assoc,splice_append ms.flatten zs (by rw [lm,hzs]; omega) spare]
   refine zaC ?_
   refine yG M M (pv_slice_h (m:=fs.length) M M (by omega)) ?_
   refine zaE ?_
   exact ⟨[_],X+pt b (.cells (fs.flatten++(zs++spare)).toArray 142 (0,0)),_,⟨rfl,trivial⟩,⟨_,⟨fs,jH (E:=142) (b:=b) hfl (by omega) hmax (by rw [List.length_append,hzs,hsp]; show _=(c - fs.length)*1; omega),hfs⟩,rfl⟩,yJ.out⟩
theorem pv_indexArr {P:Program} {g:Env} {t e:TypeId} {n:Nat} [hu:Und P t (.array n e)] {sz by':Nat} {z:Value} [hi:Inf P e sz by' z] {x ix:Operand} {b off:Nat} {k:IntKind} {i:Nat}
  (hx:ev g x=some (.pointer (some ⟨b,off,none⟩))) (hix:ev g ix=some (.int k (i:Int))) (h1:i<n) :
  PV P g (.indexAddr t x ix) (.pointer (some ⟨b,off+i*sz,none⟩)):=by
 intro o a w m ho ha
 obtain ⟨j,h3,h4,_⟩:=hi.out
 unfold execOp
 simp only [ho,ha.ev hx,ha.ev hix]
 have hadd:(⟨b,off,none⟩:Addr).add (i*j.size)=⟨b,off+i*sz,none⟩:=by subst h4; unfold Addr.add; split<;>simp_all
 have hlt:(i:Int)<(n:Int):=by omega
 simp [Instr.indexAt,asIntOf,run_underlying hu.out,sizeOf,typeInfo,h3,hadd,Instr.sureAddr]
 intro h; omega
theorem firstF_succ {l:List Rq} {k:Nat} (hk:k<l.length):xA (l.take (k+1))=xA (l.take k)++(if ((l.take k).all fun q=>decide (q.group≠l[k].group))=true then [k] else []):=by
 unfold xA
 rw [List.length_take,Nat.min_eq_left (by omega),List.length_take,Nat.min_eq_left (by omega),List.range_succ,List.filter_append]
 congr 1
 ·refine List.filter_congr fun i hi=>?_
  rw [List.mem_range] at hi
  rw [List.getElem?_take_of_lt (by omega),List.getElem?_take_of_lt (by omega),List.take_take,List.take_take,Nat.min_eq_left (by omega),Nat.min_eq_left (by omega)]
 ·rw [List.filter_cons,List.filter_nil,List.getElem?_take_of_lt (by omega),List.getElem?_eq_getElem hk,List.take_take,Nat.min_eq_left (by omega)]
def wE (ps:List PRq) (rs:List Rq):List PRq:=(xA rs).map fun i=>ps.getD i ⟨0⟩
def gB (l:List Rq) (g:Nat):Bool:=l.any fun q=>decide (q.group=g)
abbrev gcells (l:List Rq):List Value:=[.bool (gB l 0),.bool (gB l 1),.bool (gB l 2),.bool (gB l 3),.bool (gB l 4)]
theorem gc_get {l:List Rq} {g:Nat} (hg:g<5):(gcells l)[0+g*1]?=some (.bool (gB l g)):=by
 match g,hg with
 | 0,_=>rfl
 | 1,_=>rfl
 | 2,_=>rfl
 | 3,_=>rfl
 | 4,_=>rfl
theorem gc_set {l:List Rq} {r:Rq} (hg:r.group<5):(gcells l).set (0+r.group*1) (.bool true)=gcells (l++[r]):=by
 have h:∀ k,gB (l++[r]) k=(gB l k||decide (r.group=k)):=fun k=>by simp [gB]
 simp only [gcells,h]
 generalize r.group=g at hg
 match g,hg with
 | 0,_=>simp
 | 1,_=>simp
 | 2,_=>simp
 | 3,_=>simp
 | 4,_=>simp
theorem all_gB (l:List Rq) (g:Nat):(l.all fun q=>decide (q.group≠g))=!gB l g:=by
 unfold gB
 rw [List.not_any_eq_all_not]
 congr 1; funext q; simp
theorem zdP {G G' : Prop} (h : G') (f : Zh G'→G:=by intro h; (repeat (first|refine zF ?_|refine zR ?_|refine zB ?_|refine zE ?_|refine zK M M M ?_|refine zY M M M M M ?_|refine yM M M M M M ?_|refine zP ?_|refine zJ M ?_|refine kC M M (by omega) M M ?_|refine wA M (by assumption) M M M M ?_)); exact h.o) : G:=f ⟨h⟩
section
variable (w0:World) (X:Hp) (b tb:Nat) (c:Cl) (S:Hp) (n:Nat)
theorem firsts_spec (V:Raw) (ps:List PRq) (r1 r2 hG hE hD hT hK hO:Hp) (P:xT w0 X b c V tb ps hG hE hD (r1+r2) hT hK hO) (h3:OwL w0 0 ps V.reqs r1) (h4:wX w0 X b tb ps c.reqs r2) (hn:c.reqs.length≤1000000000) (hg:∀ r∈c.reqs,r.group<5) :
  yO Tryz.prog w0 81 [pB b] (X+(cliC b (clL c V)+(hG+(hE+(hD+((r1+r2)+(hT+(hK+hO))))))))
   (fun v h'=>∃ k,OwL w0 0 (wE ps c.reqs) v k∧X+(cliC b (clL c V)+(hG+(hE+(hD+((r1+r2)+(hT+(hK+hO)))))))+k=h'):=by
 obtain ⟨vmem,vr0,vsets,vmr,vg,ve,vd,vrq,vop,vow,vw,vco,vou,van⟩:=V
 have hlp:=h4.length
 obtain ⟨ar,cr,hvr⟩:=h3.shape
 simp only at hvr
 subst hvr
 have hrd:RdL w0 r1 (.slice ar ps.length cr) ps:=h3.rdh
 refine zN Tryz.func81 M Tryz.ntmps81 Tryz.results81 M fun fr=>?_
 repeat (first|refine zF ?_|refine zR ?_|refine zB ?_|refine zE ?_|refine zK M M M ?_|refine zY M M M M M ?_|refine yM M M M M M ?_|refine yT M M M ?_|refine xK (c:=[_,_,_,_,_]) M M M (fun _=>?_))
 rename_i b4
 refine yN ps.length (fun k g L=>∃ (vo:Value) (ho R:Hp),g=[(3,vo),(4,pB b4),(10,.slice ar ps.length cr),(11,.int .i64 ps.length),(12,.int .i64 k)]∧OwL w0 0 (wE ps (c.reqs.take k)) vo ho ∧
  L=pt b4 (.cells (gcells (c.reqs.take k)).toArray 207 (0,0))+(X+(cliC b (clL c ⟨vmem,vr0,vsets,vmr,vg,ve,vd,.slice ar ps.length cr,vop,vow,vw,vco,vou,van⟩)+(hG+(hE+(hD+((r1+r2)+(hT+(hK+hO)))))))+fr)+ho+R) _
  ⟨.slice none 0 0,0,0,rfl,OwL.nil _ _,by simp only [List.take_zero,gcells,gB,List.any_nil]; exact yJ.out⟩ zsb ?_
 rintro k g L hk ⟨vo,ho,R,rfl,hfo,rfl⟩
 refine zaH ?_
 refine yF M M (yS M M) (fun n1=>?_) (fun n1=>?_)
 ·have hx:k<ps.length:=by omega
  have hx2:k<c.reqs.length:=by omega
  obtain ⟨p,h1,h2,e1,⟨b1,d1,b2,d2,b3,d3,b4',d4,hv,rfl,q1,q2,q3,q4,hh⟩,rfl,-,-⟩:=h4.get (List.getElem?_eq_getElem hx2)
  obtain ⟨bq,oq,rfl,eg,rfl,hat⟩:=hrd.at hx
  obtain rfl:ps[k]=p:=by rw [List.getElem?_eq_getElem hx] at e1; exact Option.some.inj e1
  have hgr:=hg _ (List.getElem_mem hx2)
  refine zdP ?_
  refine yG M M (pv_indexArr (n:=5) M M hgr) ?_
  refine dJ M M (yE M) (zG M (zS (gc_get hgr))) ?_
  have hfs:=firstF_succ hx2
  rw [all_gB] at hfs
  cases hgb:gB (c.reqs.take k) c.reqs[k].group
  ·rw [hgb] at hfs
   have hfp:wE ps (c.reqs.take (k+1))=wE ps (c.reqs.take k)++[ps[k]]:=by
    unfold wE
    rw [hfs]
    simp [List.getD_eq_getElem?_getD,List.getElem?_eq_getElem hx]
   obtain ⟨af,cf,rfl⟩:=hfo.shape
   have hfl:(wE ps (c.reqs.take k)).length≤k:=by
    unfold wE xA
    rw [List.length_map]
    refine Nat.le_trans (List.length_filter_le _ _) ?_
    rw [List.length_range,List.length_take]; omega
   repeat (first|refine zB ?_|refine zE ?_|refine zK M M M ?_|refine zJ M ?_|refine vM (vs:=[_]) (cells:=[_]) M M M M M M (fun _=>?_))
   refine kF M M (xR (X:=0) (h:=ho) (ns:=[ps[k]]) M M hfo (wQ M) (kU.one M) M M M M M (by rw [List.length_singleton]; omega)) ?_
   rintro v5 _ ⟨h5,ho5,rfl⟩
   repeat (first|refine zB ?_|refine zE ?_|refine zK M M M ?_|refine zY M M M M M ?_|refine yM M M M M M ?_)
   refine yG M M (pv_indexArr (n:=5) M M hgr) ?_
   refine kF M M (kA M M M M (gc_get hgr) (gc_set hgr)) ?_
   rintro _ _ rfl
   rw [← List.take_succ_eq_append_getElem hx2]
   refine zaI ?_
   exact ⟨by omega,_,zsb,v5,h5,_,rfl,by rw [hfp]; exact ho5,yJ.out⟩
  ·rw [hgb] at hfs
   have hfp:wE ps (c.reqs.take (k+1))=wE ps (c.reqs.take k):=by
    unfold wE
    rw [hfs]; simp
   repeat (first|refine zB ?_|refine zE ?_|refine zK M M M ?_|refine zY M M M M M ?_|refine yM M M M M M ?_|refine zP ?_|refine zI M ?_)
   refine yG M M (pv_indexArr (n:=5) M M hgr) ?_
   refine kF M M (kA M M M M (gc_get hgr) (gc_set hgr)) ?_
   rintro _ _ rfl
   rw [← List.take_succ_eq_append_getElem hx2]
   refine zaI ?_
   exact ⟨by omega,_,zsb,vo,ho,_,rfl,by rw [hfp]; exact hfo,yJ.out⟩
 ·obtain rfl:k=ps.length:=by omega
  rw [List.take_of_length_le (by omega)] at hfo
  refine zaK ?_
  exact ⟨[_],_,_,⟨rfl,trivial⟩,⟨ho,hfo,rfl⟩,yJ.out⟩
end
def hB (l:List Int) (g:Nat):Bool:=l.contains (g:Int)
abbrev hcells (l:List Int):List Value:=[.bool (hB l 0),.bool (hB l 1),.bool (hB l 2),.bool (hB l 3),.bool (hB l 4)]
theorem hc_get {l:List Int} {g:Nat} (hg:g<5):(hcells l)[0+g*1]?=some (.bool (hB l g)):=by
 match g,hg with
 | 0,_=>rfl
 | 1,_=>rfl
 | 2,_=>rfl
 | 3,_=>rfl
 | 4,_=>rfl
theorem hc_set {l:List Int} {g:Nat} (hg:g<5):(hcells l).set (0+g*1) (.bool true)=hcells ((g:Int)::l):=by
 have h:∀ k:Nat,hB ((g:Int)::l) k=(decide ((k:Int)=(g:Int))||hB l k):=fun k=>by unfold hB; rw [List.contains_cons]; rfl
 simp only [hcells,h]
 match g,hg with
 | 0,_=>simp
 | 1,_=>simp
 | 2,_=>simp
 | 3,_=>simp
 | 4,_=>simp
theorem least_eq {m:Mpp} (h:I64 m.epoch):vK m=if moved m=true then (if m.epoch=-9223372036854775808 then 9223372036854775807 else m.epoch - 1) else m.epoch:=by
 unfold vK
 obtain ⟨h1,h2⟩:=h
 by_cases hm:moved m=true
 ·rw [if_pos hm,if_pos hm]
  by_cases he:m.epoch=-9223372036854775808
  ·rw [if_pos he,he]; rfl
  ·rw [if_neg he]; exact qK _ (by omega) (by omega)
 ·rw [if_neg hm,if_neg hm]
theorem zcR {G G' : Prop} (h : G') (f : Zh G'→G:=by intro h; (repeat (first|refine yI ?_|refine yH M M M M M ?_|refine yD M M M M (zZ M M M) ?_|refine yQ M M M M (yE M) (zG M (zS M)) ?_)); exact h.o) : G:=f ⟨h⟩
theorem checkRanges_spec (w0:World) (X:Hp) (m:Mpp) (a:Option Addr) (cp:Nat) (hv:RdL w0 X (.slice a m.rngs.length cp) m.rngs) (hl:m.rngs.length≤1000000000) (hep:I64 m.epoch) :
  yO Tryz.prog w0 66 [.agg [.slice a m.rngs.length cp,.int .i64 m.epoch,.int .i64 m.m1,.int .i64 m.m2,.int .i64 m.m3,.int .i64 m.m4,.int .i64 m.m5].toArray] X (fun r h'=>r=.int .i64 (dZ m)∧X=h'):=by
 have hmv:(!(decide (m.m1=0)&&(decide (m.m2=0)&&(decide (m.m3=0)&&(decide (m.m4=0)&&(decide (m.m5=0)&&true))))))=moved m:=by
  unfold moved
  by_cases h1:m.m1=0<;>by_cases h2:m.m2=0<;>by_cases h3:m.m3=0<;>by_cases h4:m.m4=0<;>by_cases h5:m.m5=0<;>simp [h1,h2,h3,h4,h5]
 refine zN Tryz.func66 M Tryz.ntmps66 Tryz.results66 M fun fr=>?_
 repeat (first|refine zF ?_|refine zB ?_|refine zE ?_|refine zK M M M ?_|refine xN M (c:=[_,_,_,_,_,_,_]) M M M (fun _=>?_))
 rename_i b1
 refine yB [] [0,1,2,3] (by kernel_rfl) M (by kernel_rfl) (by kernel_rfl) ?_
 refine zcR ?_
 repeat (first|refine zF ?_|refine zB ?_|refine zY M M M M M ?_|refine xJ M (vs:=[_,_,_,_,_]) M M M M M ?_|refine yL (vs:=[]) (cells:=[_,_,_,_,_]) M M M M ?_)
 refine yG M M (pv_neq_struct M M (by kernel_rfl) (by kernel_rfl) (r:=decide (m.m1=0)&&(decide (m.m2=0)&&(decide (m.m3=0)&&(decide (m.m4=0)&&(decide (m.m5=0)&&true))))) M) ?_
 rw [hmv]
 repeat (refine zE ?_)
 refine jP (fun g' L'=>∃ R:Hp,Sub g' [(1,pB b1),(3,.int .i64 0),(4,.int .i64 (vK m))]∧L'=X+pt b1 (.cells [.slice a m.rngs.length cp,.int .i64 m.epoch,.int .i64 m.m1,.int .i64 m.m2,.int .i64 m.m3,.int .i64 m.m4,.int .i64 m.m5].toArray 88 (0,0))+fr+R) ?_ ?_
 ·refine gS (t:=moved m) M (fun hm=>?_) (fun hm=>?_)
  ·refine zbQ ?_
   refine yG M M (pv_sub_w M M) ?_
   refine zaQ ?_
   have hle:vK m=IntKind.i64.wrap (m.epoch - 1):=by unfold vK; rw [if_pos hm]
   rw [hle]
   exact ⟨0,zsb,yJ.out⟩
  ·repeat (refine zP ?_)
   have hle:vK m=m.epoch:=by unfold vK; rw [if_neg (by rw [hm]; simp)]
   rw [hle]
   exact ⟨0,zsb,yJ.out⟩
 ·rintro g' _ ⟨R0,hsub,rfl⟩
  refine jV hsub ?_
  clear hsub g'
  repeat (first|refine zF ?_|refine zR ?_|refine zB ?_|refine zE ?_|refine zK M M M ?_|refine zY M M M M M ?_|refine yM M M M M M ?_|refine yT M M M ?_|refine xK (c:=[_,_,_,_,_]) M M M (fun _=>?_))
  rename_i b5
  refine yN m.rngs.length (fun k g L=>∃ (at':Int) (had:List Int) (R:Hp),g=[(1,pB b1),(3,.int .i64 at'),(4,.int .i64 (vK m)),(5,pB b5),(19,.slice a m.rngs.length cp),(20,.int .i64 m.rngs.length),(21,.int .i64 k)] ∧
   chainF m.rngs 0 [] (vK m)=chainF (m.rngs.drop k) at' had (vK m) ∧
   L=pt b5 (.cells (hcells had).toArray 207 (0,0))+(X+pt b1 (.cells [.slice a m.rngs.length cp,.int .i64 m.epoch,.int .i64 m.m1,.int .i64 m.m2,.int .i64 m.m3,.int .i64 m.m4,.int .i64 m.m5].toArray 88 (0,0))+fr)+R) _
   ⟨0,[],R0,rfl,rfl,by rw [show hcells []=[.bool false,.bool false,.bool false,.bool false,.bool false] from rfl]; exact yJ.out⟩ zsb ?_
  rintro k g L hk ⟨at',had,R,rfl,hch,rfl⟩
  refine zaH ?_
  refine yF M M (yS M M) (fun n1=>?_) (fun n1=>?_)
  ·have hx:k<m.rngs.length:=by omega
   obtain ⟨bq,oq,rfl,e,rfl,hat⟩:=hv.at hx
   rw [List.drop_eq_getElem_cons hx] at hch
   simp only [chainF] at hch
   generalize m.rngs[k]=r at hch hat
   have hfail:(r.lo≠at'∨r.hi≤r.lo∨64<r.hi∨r.group<1∨4<r.group∨r.group∈had∨r.epoch<1∨vK m<r.epoch)→dZ m=4:=fun h=>by rw [if_pos h] at hch; unfold dZ; rw [hch]
   repeat' (first|refine zF ?_|refine zR ?_|refine zB ?_|refine zE ?_|refine zK M M M ?_|refine zY M M M M M ?_|refine yM M M M M M ?_|refine zP ?_|refine zM ?_|refine zJ M ?_|refine zI M ?_|refine kC M M (by omega) M M ?_|refine vU M (by assumption) M M M M ?_|refine yY M (vs:=[_,_,_,_]) M M M M (c':=[_,_,_,_]) M M ?_|refine xK (c:=[_,_,_,_]) M M M (fun _=>?_)|refine yF M M (yS M M) (fun _=>?_) (fun _=>?_)|refine yF M M (dD M M) (fun _=>?_) (fun _=>?_)|refine yF M M (kB M M) (fun _=>?_) (fun _=>?_)|refine yF M M (xZ M M) (fun _=>?_) (fun _=>?_)|exact ⟨[_],X,_,⟨rfl,trivial⟩,⟨by rw [hfail (by omega)]; rfl,rfl⟩,yJ.out⟩|done)
   obtain ⟨lo,hi,gr,ep⟩:=r
   simp only at *
   obtain ⟨j,rfl⟩:=Int.eq_ofNat_of_zero_le (a:=gr) (by omega)
   have hj:j<5:=by omega
   refine yG M M (pv_indexArr (n:=5) M M hj) ?_
   refine dJ M M (yE M) (zG M (zS (hc_get hj))) ?_
   cases hb:hB had j
   ·have hnm:¬ ((j:Int)∈had):=fun h=>by
     have:hB had j=true:=by unfold hB; exact List.contains_iff_mem.2 h
     rw [hb] at this; cases this
    repeat' (first|refine zF ?_|refine zB ?_|refine zE ?_|refine zK M M M ?_|refine zY M M M M M ?_|refine yM M M M M M ?_|refine zP ?_|refine zM ?_|refine zJ M ?_|refine zI M ?_|refine yF M M (yS M M) (fun _=>?_) (fun _=>?_)|refine yF M M (kB M M) (fun _=>?_) (fun _=>?_)|exact ⟨[_],X,_,⟨rfl,trivial⟩,⟨by rw [hfail (by omega)]; rfl,rfl⟩,yJ.out⟩|done)
    rw [if_neg (by simp only [not_or]; exact ⟨by omega,by omega,by omega,by omega,by omega,hnm,by omega,by omega⟩)] at hch
    refine yB [6] [0,1,2,3,4,5,6] (by kernel_rfl) M (by kernel_rfl) (by kernel_rfl) ?_
    refine zaF ?_
    refine yD M M M M (pv_indexArr (n:=5) M M hj) ?_
    skip
    refine xS M M M M (kA M M M M (hc_get hj) (hc_set hj)) (xF.all _) ?_
    rintro _ _ rfl
    refine ⟨zka,?_⟩
    repeat (refine yI ?_)
    refine zaI ?_
    exact ⟨hx,_,zsb,_,_,_,rfl,hch,yJ.out⟩
   ·have hm:(j:Int)∈had:=by unfold hB at hb; exact List.contains_iff_mem.1 hb
    refine zbE ?_
    exact ⟨[_],X,_,⟨rfl,trivial⟩,⟨by rw [hfail (.inr (.inr (.inr (.inr (.inr (.inl hm))))))]; rfl,rfl⟩,yJ.out⟩
  ·obtain rfl:k=m.rngs.length:=by omega
   rw [List.drop_length] at hch
   simp only [chainF] at hch
   have hck:dZ m=if at'≠64∨1099511627776<m.epoch then 4 else if moved m=false then 0 else if qE m.rngs (vK m) 0 m.m2 m.m3 m.m4 m.m5≠0∨vK m+1≠m.m1 then 4 else 0:=by unfold dZ; rw [hch]
   have hle:=least_eq hep
   have hep2:=hep
   unfold I64 at hep2
   have hmf:vK m=m.epoch→moved m=false:=fun h=>by
    cases hm:moved m
    ·rfl
    ·rw [hm,if_pos M] at hle; split at hle<;>omega
   have hmt:vK m≠m.epoch→moved m=true:=fun h=>by
    cases hm:moved m
    ·rw [hm,if_neg (by simp)] at hle; exact absurd hle h
    ·rfl
   have hlo:-9223372036854775808≤vK m:=by rw [hle]; split<;>(try split)<;>omega
   repeat' (first|refine zF ?_|refine yC ?_|refine zB ?_|refine zE ?_|refine zK M M M ?_|refine zY M M M M M ?_|refine yM M M M M M ?_|refine xE M M ?_|refine zP ?_|refine zM ?_|refine zJ M ?_|refine zI M ?_|refine xJ M (vs:=[_,_,_,_,_]) M M M M M ?_|refine yL (vs:=[_,_]) (cells:=[_,_,_,_,_,_,_]) M M M M ?_|refine yF M M (kB M M) (fun _=>?_) (fun _=>?_)|refine yF M M (yK M M) (fun _=>?_) (fun _=>?_)|refine yF M M (xZ M M) (fun _=>?_) (fun _=>?_)|first|exact ⟨[_],X,_,⟨rfl,trivial⟩,⟨by rw [hck,if_pos (by omega)]; rfl,rfl⟩,yJ.out⟩|exact ⟨[_],X,_,⟨rfl,trivial⟩,⟨by rw [hck,if_neg (by omega),if_pos (hmf (by assumption))]; rfl,rfl⟩,yJ.out⟩|done)
   rename_i h1 h2 h3
   have hmo:=hmt h3
   rw [if_neg (by omega),if_neg (by rw [hmo]; simp)] at hck
   refine zX M M (zQ M M M) (plan_spec w0 X m.rngs a cp (vK m) 0 0 0 0 0 m.m1 m.m2 m.m3 m.m4 m.m5 hv hl hlo) ?_
   rintro _ _ (⟨hp,rfl,rfl⟩|⟨hp,u,hu,rfl,hou,rfl⟩)
   ·repeat (first|refine zF ?_|refine zB ?_|refine zE ?_|refine zK M M M ?_|refine yY M (vs:=[_,_,_,_,_,_,_]) M M M M (c':=[_,_,_,_,_,_,_]) M M ?_|refine xK (c:=[_,_,_,_,_,_,_]) M M M (fun _=>?_))
    refine kD M M (xZ M M) hp ?_
    refine zbS ?_
    exact ⟨[_],X,_,⟨rfl,trivial⟩,⟨by rw [hck,if_pos (.inl hp)]; rfl,rfl⟩,yJ.out⟩
   ·obtain ⟨au,cu,rfl⟩:=hou.shape
    repeat (first|refine zF ?_|refine zB ?_|refine zE ?_|refine zK M M M ?_|refine yY M (vs:=[_,_,_,_,_,_,_]) M M M M (c':=[_,_,_,_,_,_,_]) M M ?_|refine xK (c:=[_,_,_,_,_,_,_]) M M M (fun _=>?_))
    refine yP M M (xZ M M) (by omega) ?_
    repeat (first|refine zK M M M ?_|refine zY M M M M M ?_|refine xJ M (vs:=[_,_,_,_,_]) M M M M M ?_)
    have hr:(!(decide (vK m+1=m.m1)&&(decide (m.m2=m.m2)&&(decide (m.m3=m.m3)&&(decide (m.m4=m.m4)&&(decide (m.m5=m.m5)&&true))))))=decide (vK m+1≠m.m1):=by simp
    refine yG M M (pv_neq_struct M M (by kernel_rfl) (by kernel_rfl) (r:=decide (vK m+1=m.m1)&&(decide (m.m2=m.m2)&&(decide (m.m3=m.m3)&&(decide (m.m4=m.m4)&&(decide (m.m5=m.m5)&&true))))) M) ?_
    rw [hr]
    refine zaQ ?_
    refine uU M (fun h=>?_) (fun h=>?_)
    ·refine zbG ?_
     exact ⟨[_],X,_,⟨rfl,trivial⟩,⟨by rw [hck,if_pos (.inr h)]; rfl,rfl⟩,yJ.out⟩
    ·repeat (first|refine zF ?_|refine zB ?_|refine zE ?_|refine zK M M M ?_|refine zP ?_|refine zM ?_)
     exact ⟨[_],X,_,⟨rfl,trivial⟩,⟨by rw [hck,if_neg (fun hh=>hh.elim (fun h2=>h2 hp) h)]; rfl,rfl⟩,yJ.out⟩
abbrev mapC (b:Nat) (v:Value) (k0 k1 k2 k3 k4 k5:Int):Hp:=pt b (.cells [v,.int .i64 k0,.int .i64 k1,.int .i64 k2,.int .i64 k3,.int .i64 k4,.int .i64 k5].toArray 88 (0,0))
theorem readRng_spec (w0:World) (D:Hp) (b bm bx:Nat) (s:RS) (h hm:Hp) (vm:Value) (l:List Rng) (hr:wL w0 D b s h) (ho:OwL w0 0 l vm hm) (hl:l.length≤1000000000) (hs:s.left.length≤1000000000000) :
  yO Tryz.prog w0 298 [pB bm,pB bx] (D+(h+(mapC bm vm 0 0 0 0 0 0+hm)+pt bx (.cells [pB b].toArray 105 (0,0))))
   (fun r h'=>∃ h2 vm2 hm2,wL w0 D b (rngG s).2 h2∧OwL w0 0 (l++[(rngG s).1]) vm2 hm2∧D+(h2+(mapC bm vm2 0 0 0 0 0 0+hm2)+pt bx (.cells [pB b].toArray 105 (0,0)))=h'):=by
 obtain ⟨av,cv,rfl⟩:=ho.shape
 refine zN Tryz.func298 M Tryz.ntmps298 Tryz.results298 M fun fr=>?_
 refine yB [3,5,7,9,11,12,14] [0,1,2,4,6,8,3,5,7,9,10,11,12,13,14] (by kernel_rfl) M (by kernel_rfl) (by kernel_rfl) ?_
 refine zbR ?_
 refine xU M M M M (zQ M M M) (xO w0 D b s h hr (by first|exact hs|(have:=xM s; omega)|(have:=xM s; have:=xM (yR s); omega)|(have:=xM s; have:=xM (yR s); have:=xM (yR (yR s)); omega))) (xF.all _) ?_
 rintro _ _ ⟨g1,rfl,u1,rfl⟩
 refine ⟨zka,?_⟩
 skip
 refine xU M M M M (zQ M M M) (xO w0 D b (yR s) g1 u1 (by first|exact hs|(have:=xM s; omega)|(have:=xM s; have:=xM (yR s); omega)|(have:=xM s; have:=xM (yR s); have:=xM (yR (yR s)); omega))) (xF.all _) ?_
 rintro _ _ ⟨g2,rfl,u2,rfl⟩
 refine ⟨zka,?_⟩
 skip
 refine xU M M M M (zQ M M M) (xO w0 D b (yR (yR s)) g2 u2 (by first|exact hs|(have:=xM s; omega)|(have:=xM s; have:=xM (yR s); omega)|(have:=xM s; have:=xM (yR s); have:=xM (yR (yR s)); omega))) (xF.all _) ?_
 rintro _ _ ⟨g3,rfl,u3,rfl⟩
 refine ⟨zka,?_⟩
 skip
 refine xU M M M M (zQ M M M) (xO w0 D b (yR (yR (yR s))) g3 u3 (by first|exact hs|(have:=xM s; omega)|(have:=xM s; have:=xM (yR s); omega)|(have:=xM s; have:=xM (yR s); have:=xM (yR (yR s)); omega))) (xF.all _) ?_
 rintro _ _ ⟨g4,rfl,u4,rfl⟩
 refine ⟨zka,?_⟩
 repeat (refine yD M M M M (wJ (vs:=[_,_,_,_]) (cells:=[_,_,_,_]) M M) ?_)
 refine xS M M M M (xV (vs:=[_]) (cells:=[_,_,_,_]) M M M M) (xF.all _) ?_
 rintro _ _ ⟨bn,rfl,rfl⟩
 refine ⟨zka,?_⟩
 skip
 refine xS M M M M (xR (X:=0) (ns:=[(rngG s).1]) (h:=hm) M M ho (wQ M) (kU.one M) M M M M M (by rw [List.length_singleton]; omega)) (xF.all _) ?_
 rintro v5 _ ⟨h5,ho5,rfl⟩
 obtain ⟨a5,c5,rfl⟩:=ho5.shape
 refine ⟨zka,?_⟩
 repeat (refine yD M M M M (zZ M M M) ?_)
 refine xS M M M M (kA M M M M M (c':=[_,_,_,_,_,_,_]) M) (.keep (.keep (.keep (.keep (.drop (by kernel_rfl) .nil))))) ?_
 rintro _ _ rfl
 refine ⟨zka,?_⟩
 repeat (refine yI ?_)
 skip
 exact ⟨[],_,_,trivial,⟨g4,_,h5,u4,ho5,rfl⟩,yJ.out⟩
def uG (s:RS):Bool:=rngsN s&&((xQ s).toNat==0||!(wD rngG (xQ s).toNat (yR s)).2.bad)
theorem bad_int {s:RS} (h:s.bad=true):(yR s).bad=true:=by unfold yR takeS uY; rw [h]; rfl
theorem bad_rng {s:RS} (h:s.bad=true):(rngG s).2.bad=true:=bad_int (bad_int (bad_int (bad_int h)))
theorem bad_many {s:RS} {i:Nat} (h:(wD rngG i s).2.bad=true):∀ j,(wD rngG (i+j) s).2.bad=true
 | 0=>h
 | j+1=>bad_rng (bad_many h j)
theorem rngG_le (s:RS):(rngG s).2.left.length≤s.left.length:=by
 unfold rngG
 have h1:=xM s
 have h2:=xM (yR s)
 have h3:=xM (yR (yR s))
 have h4:=xM (yR (yR (yR s)))
 simp only; omega
theorem many_rng_le :∀ (k:Nat) (s:RS),(wD rngG k s).2.left.length≤s.left.length
 | 0,s=>Nat.le_refl _
 | k+1,s=>Nat.le_trans (rngG_le _) (many_rng_le k s)
theorem each_spec (w0:World) (D:Hp) (b bm bx:Nat) (s:RS) (h:Hp) (hr:wL w0 D b s h) (hs:s.left.length≤1000000000) :
  yO Tryz.prog w0 297 [pB b,.func (.func 298) #[] [pB bm,pB bx].toArray] (D+(h+mapC bm (.slice none 0 0) 0 0 0 0 0 0+pt bx (.cells [pB b].toArray 105 (0,0))))
   (fun r h'=>∃ h2 vm hm s2 l2,r=.bool (uG s)∧wL w0 D b s2 h2∧s2.left.length≤s.left.length∧OwL w0 0 l2 vm hm∧(uG s=true→s2=(wD rngG (xQ s).toNat (yR s)).2∧l2=(wD rngG (xQ s).toNat (yR s)).1) ∧
    D+(h2+(mapC bm vm 0 0 0 0 0 0+hm)+pt bx (.cells [pB b].toArray 105 (0,0)))=h'):=by
 refine zN Tryz.func297 M Tryz.ntmps297 Tryz.results297 M fun fr=>?_
 refine zaC ?_
 refine zX M M (zQ M M M) (xO w0 D b s h hr (by omega)) ?_
 rintro _ _ ⟨h2,rfl,hr2,rfl⟩
 refine zaC ?_
 have fail:rngsN s=false→∃ h3 vm hm s2 l2,Value.bool false=.bool (uG s)∧wL w0 D b s2 h3∧s2.left.length≤s.left.length∧OwL w0 0 l2 vm hm∧(uG s=true→s2=(wD rngG (xQ s).toNat (yR s)).2∧l2=(wD rngG (xQ s).toNat (yR s)).1) ∧
    D+(h3+(mapC bm vm 0 0 0 0 0 0+hm)+pt bx (.cells [pB b].toArray 105 (0,0)))=D+(h2+(mapC bm (.slice none 0 0) 0 0 0 0 0 0+0)+pt bx (.cells [pB b].toArray 105 (0,0))):=fun hn=>by
  have he:uG s=false:=by unfold uG; rw [hn]; rfl
  exact ⟨h2,.slice none 0 0,0,yR s,[],by rw [he],hr2,xM s,OwL.nil _ _,fun h=>by (rw [he] at h; cases h),rfl⟩
 refine yF M M (yS M M) (fun n1=>?_) (fun n1=>?_)
 ·refine zbS ?_
  exact ⟨[_],_,_,⟨rfl,trivial⟩,fail (by unfold rngsN; exact decide_eq_false (by omega)),by rw [yA]; exact yJ.out⟩
 ·repeat (refine zK M M M ?_)
  refine zX M M (zQ M M M) (left02_spec w0 D b _ h2 hr2) ?_
  rintro _ _ ⟨rfl,rfl⟩
  have hle:=xM s
  refine yG M M (pv_quo_nn M M (by omega) (by omega) (by omega)) ?_
  skip
  refine yF M M (kB M M) (fun n2=>?_) (fun n2=>?_)
  ·refine zaB ?_
   exact ⟨[_],_,_,⟨rfl,trivial⟩,fail (by unfold rngsN; exact decide_eq_false (by omega)),by rw [yA]; exact yJ.out⟩
  ·have hN:rngsN s=true:=by unfold rngsN; exact decide_eq_true ⟨by omega,by omega⟩
   obtain ⟨N,hNe⟩:=Int.eq_ofNat_of_zero_le (a:=xQ s) (by omega)
   have hNt:(xQ s).toNat=N:=by omega
   have hN8:N≤1000000000:=by omega
   rw [hNe]
   refine zcD ?_
   refine yN N (fun k g L=>∃ (hk:Hp) (vm:Value) (hm R:Hp),g=[(0,pB b),(1,.func (.func 298) #[] [pB bm,pB bx].toArray),(17,.int .i64 (N:Int)),(18,.int .i64 k)] ∧
    wL w0 D b (wD rngG k (yR s)).2 hk∧OwL w0 0 (wD rngG k (yR s)).1 vm hm∧(k≠0→(wD rngG k (yR s)).2.bad=false)∧L=D+(hk+(mapC bm vm 0 0 0 0 0 0+hm)+pt bx (.cells [pB b].toArray 105 (0,0)))+fr+R) _
    ⟨h2,.slice none 0 0,0,0,rfl,hr2,OwL.nil _ _,fun h=>absurd M h,by rw [yA,yA]; exact yJ.out⟩ zsb ?_
   rintro k g L hk ⟨h3,vm,hm,R,rfl,hr3,ho3,hb3,rfl⟩
   refine zaH ?_
   refine yF M M (yS M M) (fun n3=>?_) (fun n3=>?_)
   ·have hx:k<N:=by omega
    have hml:=many_rng_le k (yR s)
    have hll:=uT rngG k (yR s)
    refine zaZ ?_
    refine zX M M (zQ M M (by simp<;>rfl)) (readRng_spec w0 D b bm bx _ h3 hm vm _ hr3 ho3 (by omega) (by omega)) ?_
    rintro _ _ ⟨h4,vm2,hm2,hr4,ho4,rfl⟩
    refine zaC ?_
    refine zX M M (zQ M M M) (bad02_spec w0 D b _ h4 hr4) ?_
    rintro _ _ ⟨rfl,rfl⟩
    have hml4:=many_rng_le (k+1) (yR s)
    cases hbad:(rngG (wD rngG k (yR s)).2).2.bad
    ·refine zaJ ?_
     exact ⟨hx,_,zsb,h4,vm2,hm2,_,rfl,hr4,ho4,fun _=>hbad,yJ.out⟩
    ·refine zaB ?_
     have he:uG s=false:=by
      have hbm:(wD rngG (k+1) (yR s)).2.bad=true:=hbad
      have:=bad_many hbm (N - (k+1))
      rw [show k+1+(N - (k+1))=N by omega] at this
      unfold uG; rw [hN,hNt,this]
      have:(N==0)=false:=by simp; omega
      rw [this]; rfl
     exact ⟨[_],_,_,⟨rfl,trivial⟩,⟨h4,vm2,hm2,_,_,by rw [he]; rfl,hr4,Nat.le_trans hml4 hle,ho4,fun h=>by (rw [he] at h; cases h),rfl⟩,yJ.out⟩
   ·obtain rfl:k=N:=by omega
    refine zaK ?_
    have he:uG s=true:=by
     unfold uG; rw [hN,hNt]
     by_cases h0:k=0
     ·simp [h0]
     ·rw [hb3 h0]; simp
    exact ⟨[_],_,_,⟨rfl,trivial⟩,⟨h3,vm,hm,_,_,by rw [he]; rfl,hr3,Nat.le_trans (many_rng_le k (yR s)) hle,ho3,fun _=>⟨rfl,rfl⟩,rfl⟩,yJ.out⟩
theorem intV_i64 (s:RS):I64 (xQ s):=by
 unfold xQ I64
 split
 ·unfold dec8; rw [IntKind.wrap_i64]; omega
 ·omega
theorem readMap_spec (w0:World) (D:Hp) (b:Nat) (s:RS) (h:Hp) (hr:wL w0 D b s h) (hs:s.left.length≤1000000000) :
  yO Tryz.prog w0 236 [pB b] (D+h)
   (fun r h'=>∃ h2 hm vm m s3,r=.tuple #[.agg [vm,.int .i64 m.epoch,.int .i64 m.m1,.int .i64 m.m2,.int .i64 m.m3,.int .i64 m.m4,.int .i64 m.m5].toArray,.bool (uG s)]∧wL w0 D b s3 h2∧OwL w0 0 m.rngs vm hm∧I64 m.epoch∧(uG s=true→(m,s3)=readMap s)∧D+(h2+hm)=h'):=by
 refine zN Tryz.func236 M Tryz.ntmps236 Tryz.results236 M fun fr=>?_
 repeat (first|refine zF ?_|refine zB ?_|refine zE ?_|refine zK M M M ?_|refine yM M M M M M ?_|refine xN M (c:=[_]) M M M (fun _=>?_)|refine xK (c:=[_,_,_,_,_,_,_]) M M M (fun _=>?_)|refine uI M M M ?_)
 rename_i bx b2 b4
 refine zX M M (zQ M M M) (each_spec w0 D b b4 bx s h hr hs) ?_
 rintro _ _ ⟨h2,vm,hm,s2,l2,rfl,hr2,hs2,ho2,he2,rfl⟩
 obtain ⟨av,cv,rfl⟩:=ho2.shape
 refine zdI ?_
 refine zX M M (zQ M M M) (xO w0 D b s2 h2 hr2 (by omega)) ?_
 rintro _ _ ⟨g0,rfl,u0,rfl⟩
 repeat (first|refine zF ?_|refine zE ?_|refine zY M M M M M ?_|refine xD M M M (c':=[_,_,_,_,_,_,_]) M M M M ?_)
 have l1:=xM s2
 have l2':=xM (yR s2)
 have l3:=xM (yR (yR s2))
 have l4:=xM (yR (yR (yR s2)))
 have l5:=xM (yR (yR (yR (yR s2))))
 refine yB [1,3,5,7,9,12] [0,2,4,6,8,1,3,5,7,9,10,11,12] (by kernel_rfl) M (by kernel_rfl) (by kernel_rfl) ?_
 repeat (refine yQ M M M M (yE M) (zG M (zS M)) ?_)
 refine xU M M M M (zQ M M M) (xO w0 D b (yR s2) g0 u0 (by omega)) (xF.all _) ?_
 rintro _ _ ⟨g1,rfl,u1,rfl⟩
 refine ⟨zka,?_⟩
 skip
 refine xU M M M M (zQ M M M) (xO w0 D b (yR (yR s2)) g1 u1 (by omega)) (xF.all _) ?_
 rintro _ _ ⟨g2,rfl,u2,rfl⟩
 refine ⟨zka,?_⟩
 skip
 refine xU M M M M (zQ M M M) (xO w0 D b (yR (yR (yR s2))) g2 u2 (by omega)) (xF.all _) ?_
 rintro _ _ ⟨g3,rfl,u3,rfl⟩
 refine ⟨zka,?_⟩
 skip
 refine xU M M M M (zQ M M M) (xO w0 D b (yR (yR (yR (yR s2)))) g3 u3 (by omega)) (xF.all _) ?_
 rintro _ _ ⟨g4,rfl,u4,rfl⟩
 refine ⟨zka,?_⟩
 skip
 refine xU M M M M (zQ M M M) (xO w0 D b (yR (yR (yR (yR (yR s2))))) g4 u4 (by omega)) (xF.all _) ?_
 rintro _ _ ⟨g5,rfl,u5,rfl⟩
 refine ⟨zka,?_⟩
 repeat (first|refine yD M M M M (zZ M M M) ?_|refine yD M M M M (wJ (vs:=[_,_,_,_,_]) (cells:=[_,_,_,_,_]) M M) ?_)
 refine xS M M M M (wH (vs:=[_,_,_,_,_]) M M M M (c:=[_,_,_,_,_,_,_]) (Nat.le_of_ble_eq_true M) (c':=[_,_,_,_,_,_,_]) M) (xF.all _) ?_
 rintro _ _ rfl
 refine ⟨zka,?_⟩
 repeat (refine yI ?_)
 repeat (first|refine zF ?_|refine zB ?_|refine zE ?_|refine zK M M M ?_|refine zM ?_|refine xJ M (vs:=[_,_,_,_,_,_,_]) M M M M M ?_|refine yY M (vs:=[_,_,_,_,_,_,_]) M M M M (c':=[_,_,_,_,_,_,_]) M M ?_)
 refine ⟨[_,_],D+(g5+hm),_,⟨⟨_,rfl,zL (vs:=[_,_,_,_,_,_,_]) M M M⟩,rfl,trivial⟩,⟨g5,hm,_,⟨l2,xQ s2,xQ (yR s2),xQ (yR (yR s2)),xQ (yR (yR (yR s2))),xQ (yR (yR (yR (yR s2)))),xQ (yR (yR (yR (yR (yR s2)))))⟩,_,rfl,u5,ho2,intV_i64 _,fun h=>?_,rfl⟩,yJ.out⟩
 obtain ⟨rfl,rfl⟩:=he2 h
 rfl
def endedF (ok:Bool) (s:RS) (m:Mpp):Int:=if ok=false then 4 else if endV s≠0 then endV s else dZ m
theorem zdQ {G G' : Prop} (h : G') (f : Zh G'→G:=by intro h; (repeat (first|refine zF ?_|refine zB ?_|refine zK M M M ?_|refine zP ?_|refine zI M ?_)); exact h.o) : G:=f ⟨h⟩
theorem ended_spec (w0:World) (D:Hp) (b:Nat) (s:RS) (h hm:Hp) (ok:Bool) (m:Mpp) (av:Option Addr) (cv:Nat) (hr:wL w0 D b s h) (ho:OwL w0 0 m.rngs (.slice av m.rngs.length cv) hm) (hl:ok=true→m.rngs.length≤1000000000) (hep:I64 m.epoch) :
  yO Tryz.prog w0 237 [pB b,.bool ok,.agg [.slice av m.rngs.length cv,.int .i64 m.epoch,.int .i64 m.m1,.int .i64 m.m2,.int .i64 m.m3,.int .i64 m.m4,.int .i64 m.m5].toArray] (D+(h+hm)) (fun r h'=>r=.int .i64 (endedF ok s m)∧D+(h+hm)=h'):=by
 have hck:=fun h=>checkRanges_spec w0 hm m av cv ho.rdh (hl h) hep
 unfold endedF
 refine zN Tryz.func237 M Tryz.ntmps237 Tryz.results237 M fun fr=>?_
 repeat (first|refine zF ?_|refine zB ?_|refine zE ?_|refine zK M M M ?_|refine xN M (c:=[_,_,_,_,_,_,_]) M M M (fun _=>?_))
 cases ok
 ·refine zaB ?_
  exact ⟨[_],_,_,⟨rfl,trivial⟩,⟨rfl,rfl⟩,yJ.out⟩
 ·refine zdQ ?_
  refine zX M M (zQ M M M) (end02_spec w0 D b s h hr) ?_
  rintro _ _ ⟨rfl,rfl⟩
  refine zaC ?_
  refine yF M M (xZ M M) (fun n1=>?_) (fun n1=>?_)
  ·refine zaB ?_
   exact ⟨[_],D+(h+hm),_,⟨rfl,trivial⟩,⟨by rw [if_neg (by simp),if_pos n1]; rfl,rfl⟩,yJ.out⟩
  ·repeat (first|refine zF ?_|refine zB ?_|refine zE ?_|refine zP ?_|refine zI M ?_|refine xJ M (vs:=[_,_,_,_,_,_,_]) M M M M M ?_)
   refine zX M M (zQ M M M) (hck M) ?_
   rintro _ _ ⟨rfl,rfl⟩
   refine zaE ?_
   exact ⟨[_],D+(h+hm),_,⟨rfl,trivial⟩,⟨by rw [if_neg (by simp),if_neg n1]; rfl,rfl⟩,yJ.out⟩
theorem endV_bad {s:RS} (h:s.bad=true):endV s=4:=by unfold endV; rw [if_pos h]
theorem getMap_eq {b:List Bt} {m:Mpp} {s3:RS} (h:uG ⟨b,false⟩=true→(m,s3)=readMap ⟨b,false⟩) :
  jN b=if endedF (uG ⟨b,false⟩) s3 m=0 then (m,0) else (noMap,endedF (uG ⟨b,false⟩) s3 m):=by
 unfold jN
 cases hr:rngsN ⟨b,false⟩
 ·have he:uG ⟨b,false⟩=false:=by unfold uG; rw [hr]; rfl
  rw [he]; rfl
 ·rw [if_neg (by simp)]
  cases he:uG ⟨b,false⟩
  ·have hbad:(wD rngG (xQ ⟨b,false⟩).toNat (yR ⟨b,false⟩)).2.bad=true:=by
    unfold uG at he; rw [hr] at he; simp at he; exact he.2
   have h2:(readMap ⟨b,false⟩).2.bad=true:=by unfold readMap; exact bad_int (bad_int (bad_int (bad_int (bad_int (bad_int hbad)))))
   simp only [endV_bad h2]
   rfl
  ·have:=h he
   rw [← this]
   simp only [endedF,Bool.true_eq_false,if_false]
   by_cases h1:endV s3=0<;>by_cases h2:dZ m=0<;>simp [h1,h2]
theorem readMap_len {s:RS} {m:Mpp} {s3:RS} (hk:uG s=true) (h:uG s=true→(m,s3)=readMap s):m.rngs.length≤s.left.length:=by
 have h1:=congrArg Prod.fst (h hk)
 simp only [readMap] at h1
 subst h1
 rw [uT]
 have hr:rngsN s=true:=by unfold uG at hk; cases hh:rngsN s<;>simp_all
 unfold rngsN at hr
 have hr:=of_decide_eq_true hr
 have:=xM s
 omega
theorem getMap_spec (w0:World) (X:Hp) (v:Value) (bs:List Bt) (hv:RdL w0 X v bs) (hl:bs.length≤1000000000) :
  yO Tryz.prog w0 162 [v] X (fun r h'=>∃ av cv G,r=.tuple #[.agg [.slice av (jN bs).1.rngs.length cv,.int .i64 (jN bs).1.epoch,.int .i64 (jN bs).1.m1,.int .i64 (jN bs).1.m2,.int .i64 (jN bs).1.m3,.int .i64 (jN bs).1.m4,.int .i64 (jN bs).1.m5].toArray,.int .i64 (jN bs).2] ∧
   RdL w0 G (.slice av (jN bs).1.rngs.length cv) (jN bs).1.rngs∧X+G=h'):=by
 have hrd:=read02_spec w0 X v bs hv (by omega)
 obtain ⟨a0,c0,rfl⟩:=hv.shape
 refine zN Tryz.func162 M Tryz.ntmps162 Tryz.results162 M fun fr=>?_
 repeat (first|refine zF ?_|refine zB ?_|refine zE ?_|refine zK M M M ?_|refine xK (c:=[_,_,_,_,_,_,_]) M M M (fun _=>?_))
 rename_i b2
 refine zX M M (zQ M M M) hrd ?_
 rintro _ _ ⟨br,D,h2,rfl,hr2,rfl⟩
 refine zaC ?_
 refine zX M M (zQ M M M) (readMap_spec w0 D br _ h2 hr2 hl) ?_
 rintro _ _ ⟨h3,hm,vm,m,s3,rfl,hr3,ho3,hep,he,rfl⟩
 obtain ⟨av,cv,rfl⟩:=ho3.shape
 repeat (first|refine zF ?_|refine zB ?_|refine zE ?_|refine zK M M M ?_|refine xJ M (vs:=[_,_,_,_,_,_,_]) M M M M M ?_|refine yY M (vs:=[_,_,_,_,_,_,_]) M M M M (c':=[_,_,_,_,_,_,_]) M M ?_|refine xK (c:=[_,_,_,_,_,_,_]) M M M (fun _=>?_))
 refine zX M M (zQ M M M) (ended_spec w0 D br s3 h3 hm (uG ⟨bs,false⟩) m av cv hr3 ho3 (fun hk=>Nat.le_trans (readMap_len hk he) hl) hep) ?_
 rintro _ _ ⟨rfl,rfl⟩
 have heq:=getMap_eq he
 refine zaC ?_
 refine yF M M (xZ M M) (fun n1=>?_) (fun n1=>?_)
 ·rw [if_neg n1] at heq
  rw [heq]
  refine zeE ?_
  exact ⟨[_,_],X,_,⟨⟨_,rfl,zL (vs:=[_,_,_,_,_,_,_]) M M M⟩,rfl,trivial⟩,⟨none,0,0,rfl,RdL.nil _ _ _,yA X⟩,yJ.out⟩
 ·rw [if_pos (by simpa using n1)] at heq
  rw [heq]
  repeat (first|refine zF ?_|refine zB ?_|refine zE ?_|refine zK M M M ?_|refine zP ?_|refine zM ?_|refine zI M ?_|refine xJ M (vs:=[_,_,_,_,_,_,_]) M M M M M ?_|refine yY M (vs:=[_,_,_,_,_,_,_]) M M M M (c':=[_,_,_,_,_,_,_]) M M ?_)
  exact ⟨[_,_],X+hm,_,⟨⟨_,rfl,zL (vs:=[_,_,_,_,_,_,_]) M M M⟩,rfl,trivial⟩,⟨av,cv,hm,rfl,ho3.rdh,rfl⟩,yJ.out⟩
section
variable (w0:World) (X:Hp) (b tb:Nat) (c:Cl) (S:Hp) (n:Nat)
theorem learning_spec (hS:kT w0 X b tb c S) (l:List Bt) (ad:Option Addr) (cp:Nat) (hl:RdL w0 X (.slice ad l.length cp) l) (hlen:l.length≤1000000000) :
  yO Tryz.prog w0 301 [pB b,.slice ad l.length cp] (X+S) (fun r h'=>r=.bool (decide ((jN l).2=0))∧kP w0 X b tb (jS c l) h'):=by
 obtain ⟨⟨vmem,vr0,vsets,vmr,vg,ve,vd,vrq,vop,vow,vw,vco,vou,van⟩,ps,hG,hE,hD,hR,hT,hK,hO,P,rfl⟩:=hS
 have hget:=getMap_spec w0 X _ l hl hlen
 have m1:(jN l).2=0→c.m.epoch≤(jN l).1.epoch→jS c l={ c with m:=(jN l).1 }:=fun h1 h2=>by unfold jS; rw [if_pos ⟨h1,h2⟩]
 have m2:¬ ((jN l).2=0∧c.m.epoch≤(jN l).1.epoch)→jS c l=c:=fun h=>by unfold jS; rw [if_neg h]
 generalize jS c l=c' at *
 generalize hg:jN l=me at *
 obtain ⟨⟨mr,m0,k1,k2,k3,k4,k5⟩,e⟩:=me
 simp only at *
 refine zN Tryz.func301 M Tryz.ntmps301 Tryz.results301 M fun fr=>?_
 refine zaC ?_
 refine zX M M (zQ M M M) hget ?_
 rintro _ _ ⟨av,cv,G,rfl,hrd,rfl⟩
 repeat (first|refine zF ?_|refine zE ?_|refine zK M M M ?_|refine yY M (vs:=[_,_,_,_,_,_,_]) M M M M (c':=[_,_,_,_,_,_,_]) M M ?_|refine xK (c:=[_,_,_,_,_,_,_]) M M M (fun _=>?_))
 rename_i b5
 refine yB [] [0,1,2,3,4,5,6,7,8,9,10,11] (by kernel_rfl) M (by kernel_rfl) (by kernel_rfl) ?_
 repeat (refine yH M M M M M ?_)
 refine jY M M M M (yK M M) (fun n2=>?_) (fun n2=>?_)
 ·refine zaF ?_
  refine jY M M M M (kQ M M) (fun n3=>?_) (fun n3=>?_)
  ·refine zaD ?_
   repeat (first|refine zF ?_|refine zB ?_|refine zE ?_|refine zK M M M ?_|refine zY M M M M M ?_|refine zJ M ?_|refine xJ M (vs:=[_,_,_,_,_,_,_]) M M M M M ?_|refine yY M (vs:=[_,_,_,_,_,_,_]) M M M M (c':=(_::_::_::_::_::_::_::_::_::_::_::_::_::_::_::_::_::_::_::_::_::_::_::_::_::_::_::_::_::_::_::_::_::_::_::_::_::_::[])) M M ?_)
   refine yG M M (yK M M) ?_
   refine zaE ?_
   rw [m1 n2 n3]
   have P2:=P.mono (L:=X+G) (R:=G) M
   have hP:xT w0 (X+G) b { c with m:=⟨mr,m0,k1,k2,k3,k4,k5⟩ } ⟨vmem,vr0,vsets,.slice av mr.length cv,vg,ve,vd,vrq,vop,vow,vw,vco,vou,van⟩ tb ps hG hE hD hR hT hK hO :=
    xT.mk P2.mem P2.rngs0 P2.sets ⟨av,cv,rfl,hrd.mono (uQ _ _)⟩ P2.guess P2.ended P2.dbts P2.reqs P2.opn P2.own P2.txn P2.waits P2.coord P2.out P2.ansd
   exact ret_cli (X:=X+G) [_] ⟨rfl,trivial⟩ hP (by exact rfl) ⟨rfl,hP.now.after.trans⟩
  ·refine zaD ?_
   refine zdQ ?_
   refine yG M M (yK M M) ?_
   refine zaE ?_
   rw [m2 (fun h=>n3 h.2)]
   have P2:=P.mono (L:=X+G) (R:=G) M
   exact ret_cli (X:=X+G) [_] ⟨rfl,trivial⟩ P2 (by exact rfl) ⟨rfl,P2.now.after.trans⟩
 ·refine zaR ?_
  refine zdQ ?_
  refine yG M M (yK M M) ?_
  refine zaE ?_
  rw [m2 (fun h=>n2 h.1)]
  have P2:=P.mono (L:=X+G) (R:=G) M
  exact ret_cli (X:=X+G) [_] ⟨rfl,trivial⟩ P2 (by exact rfl) ⟨rfl,P2.now.after.trans⟩
variable (r:Res) (ad:Option Addr) (cp:Nat)
theorem move1_spec (hS:kT w0 X b tb c S) (hB:Bd n c) (hn:n≤1000000000) (hr:RdL w0 X (.slice ad r.data.length cp) r.data) (hlen:r.data.length≤1000000000) (x:Cal) (d:Value) (hg:grp x.src) (p q:Nat) (hp:At w0 X p 0 [pB b]) (hq:At w0 X q 0 (xW x d)) :
  yO Tryz.prog w0 161 [.agg [.int .i64 r.code,.slice ad r.data.length cp].toArray,pB p,pB q] (X+S) (fun v h'=>kP w0 X b tb (frzF c x (jN r.data).1.m1 0) h'):=by
 have hget:=getMap_spec w0 X _ r.data hr hlen
 refine zN Tryz.func161 M Tryz.ntmps161 Tryz.results161 M fun fr=>?_
 repeat (first|refine zF ?_|refine zB ?_|refine zE ?_|refine zY M M M M M ?_|refine yM M M M M M ?_|refine xN M (c:=[_,_]) M M M (fun _=>?_))
 refine zX M M (zQ M M M) hget ?_
 rintro _ _ ⟨av,cv,G,rfl,hrd,rfl⟩
 repeat (first|refine zB ?_|refine zE ?_|refine zK M M M ?_|refine zY M M M M M ?_|refine yM M M M M M ?_|refine wA M (by assumption) M M M M ?_|refine vU M (by assumption) M M M M ?_|refine yY M (vs:=[_,_,_,_,_,_,_]) M M M M (c':=[_,_,_,_,_,_,_]) M M ?_|refine xK (c:=[_,_,_,_,_,_,_]) M M M (fun _=>?_))
 refine zX M M (zQ M M M) (freezing_spec w0 (X+G) b tb c S n (hS.mono M) hB hn x d (jN r.data).1.m1 0 (by omega) hg) ?_
 rintro _ _ hA
 repeat (refine zE ?_)
 exact ⟨[],_,_,trivial,hA.trans,yJ.out⟩
theorem ok1_spec (hS:kT w0 X b tb c S) (hr:RdL w0 X (.slice ad r.data.length cp) r.data) (p q:Nat) (k:Nat) [hk:Fun Tryz.prog k] (cap:List Value) (c':Cl) (hp:At w0 X p 0 [pB b]) (hq:At w0 X q 0 [.func (.func k) #[] cap.toArray])
  (hrun:yO Tryz.prog w0 k (.agg [.int .i64 r.code,.slice ad r.data.length cp].toArray::cap) (X+S) (fun v h'=>kP w0 X b tb c' h')) :
  yO Tryz.prog w0 235 [.agg [.int .i64 r.code,.slice ad r.data.length cp].toArray,pB p,pB q] (X+S) (fun v h'=>kP w0 X b tb (if r.code≠0 then jC c r.code else c') h'):=by
 refine zN Tryz.func235 M Tryz.ntmps235 Tryz.results235 M fun fr=>?_
 repeat (first|refine zF ?_|refine zB ?_|refine zE ?_|refine zY M M M M M ?_|refine yM M M M M M ?_|refine xN M (c:=[_,_]) M M M (fun _=>?_))
 refine yF M M (xZ M M) (fun h=>?_) (fun h=>?_)
 ·rw [if_pos h]
  repeat (first|refine zF ?_|refine zB ?_|refine zE ?_|refine zY M M M M M ?_|refine yM M M M M M ?_|refine zJ M ?_|refine wA M (by assumption) M M M M ?_)
  refine zX M M (zQ M M M) (xL w0 X b tb c S hS r.code) ?_
  rintro _ _ hA
  refine zbI ?_
  exact ⟨[],_,_,trivial,hA.after,yJ.out⟩
 ·rw [if_neg h]
  repeat (first|refine zB ?_|refine zE ?_|refine zP ?_|refine zI M ?_|refine wA M (by assumption) M M M M ?_|refine xJ M (vs:=[_,_]) M M M M M ?_)
  refine zX M M (zQ M M (by simp<;>rfl)) hrun ?_
  rintro _ _ hA
  repeat (refine zE ?_)
  exact ⟨[],_,_,trivial,hA,yJ.out⟩
theorem install1_spec (hS:kT w0 X b tb c S) (hB:Bd n c) (hn:n≤1000000000) (x:Cal) (d:Value) (ep:Int) (p q s:Nat) (hp:At w0 X p 0 [pB b]) (hq:At w0 X q 0 [.int .i64 ep]) (hs:At w0 X s 0 (xW x d)) :
  yO Tryz.prog w0 299 [.agg [.int .i64 r.code,.slice ad r.data.length cp].toArray,pB p,pB q,pB s] (X+S) (fun v h'=>kP w0 X b tb (finF c x ep) h'):=by
 have hok:=oking_spec w0 X b tb c S n hS hB hn 0 ⟨by omega,by omega⟩ ⟨10,0,0,0,0,ep,0,0,0,0,0,0,0,[],[],[],[]⟩ _ (rd_bare w0 _ _ rfl M M M) 300 [pB p,pB s,pB q].toArray (.fin x ep) (fun Y p' q' h1 h2=>⟨p',q',p,s,q,d,rfl,h1,h2,hp.mono M,hs.mono M,hq.mono M⟩)
 refine zN Tryz.func299 M Tryz.ntmps299 Tryz.results299 M fun fr=>?_
 repeat (first|refine zF ?_|refine zB ?_|refine zE ?_|refine wA M (by assumption) M M M M ?_|refine yL (vs:=[_,_]) (cells:=[_,_,_,_,_,_,_,_,_,_,_,_,_,_,_,_,_]) M M M M ?_|refine xN M (c:=[_,_]) M M M (fun _=>?_)|refine uI M M M ?_)
 refine zX M M (zQ M M M) hok ?_
 rintro _ _ hA
 repeat (refine zE ?_)
 exact ⟨[],_,_,trivial,hA,yJ.out⟩
end
theorem zeQ {G G' : Prop} (h : G') (f : Zh G'→G:=by intro h; (repeat (first|refine yH M M M M M ?_|refine yD M M M M (zZ M M M) ?_|refine yQ M M M M (yE M) (zG M (zS M)) ?_|refine yD M M M M (wJ (vs:=[_,_,_,_,_]) (cells:=[_,_,_,_,_,_,_,_,_,_,_,_,_,_,_,_,_]) M M) ?_)); exact h.o) : G:=f ⟨h⟩
section
variable (w0:World) (X:Hp) (b tb:Nat) (c:Cl) (S:Hp) (n:Nat)
theorem askRead_spec (hS:kT w0 X b tb c S) (hB:Bd n c) (hn:n≤1000000000) (hF:xG c) (hm:c.m.rngs.length≤1000000000) (ho:c.opn=true) (hal:c.cur.asked.length≤1000000000) (blk later:Int) (hl:0≤later∧later≤1) :
  yO Tryz.prog w0 148 [pB b,.int .i64 blk,.int .i64 later] (X+S) (fun r h'=>kP w0 X b tb (readF c blk later) h'):=by
 have hgr:=findR_grp hF blk
 obtain ⟨⟨vmem,vr0,vsets,vmr,vg,ve,vd,vrq,vop,vow,vw,vco,vou,van⟩,ps,hG,hE,hD,hR,hT,hK,hO,P,rfl⟩:=hS
 obtain ⟨am,cm,hvm,hrm⟩:=P.mr
 have hvo:=P.opn
 rw [ho] at hvo
 simp only [wK,cond_true] at hvm hvo
 subst hvm
 subst hvo
 have hT2:uL w0 X tb c.cur hT:=by
  rcases P.txn with h|h
  ·exact h
  ·rw [h.1] at ho; cases ho
 obtain ⟨vr,va,vw',ap,cp,hr,ha,hw,rfl,k1,k2,k3,k4⟩:=hT2
 obtain ⟨aa,ca,rfl⟩:=k2.shape
 have hfind:=find_spec w0 X c.m.rngs am cm c.m.epoch c.m.m1 c.m.m2 c.m.m3 c.m.m4 c.m.m5 blk hrm hm
 unfold readF
 simp only
 generalize (dN c.m.rngs blk).1=rg at *
 refine zN Tryz.func148 M Tryz.ntmps148 Tryz.results148 M fun fr=>?_
 repeat (first|refine zF ?_|refine zB ?_|refine zE ?_|refine xN M (c:=[_]) M M M (fun _=>?_))
 rename_i b1 b2
 refine dX [5,9,10] [0,1,2,3,4,5,6,7,8,9,10,11] 9 6 [.int .i64 0,.int .i64 0,.int .i64 0,.int .i64 0] 80 (by kernel_rfl) M (by kernel_rfl) (by kernel_rfl) (by kernel_rfl) ?_
 repeat (first|refine V_of M M (fun _=>rfl) M M M M ?_|refine V_pure M (zZ M M M) (fun _=>zZ M M M) M M M M ?_|refine V_load M M (fun _=>rfl) (zG M (zS M)) M M M M ?_|refine V_load M M (fun _=>rfl) (zL (vs:=[_,_,_,_,_,_,_]) M M M) M M M M ?_)
 refine V_call M M M M M (zQ M M M) (fun _=>zQ M M M) hfind (xF.all _) M M M M ?_
 rintro _ _ ⟨rfl,rfl⟩
 refine ⟨zka,?_⟩
 repeat (refine V_of M M (fun _=>rfl) M M M M ?_)
 refine V_now M M M M (fun b7=>?_)
 skip
 refine xS M M M M (wH (vs:=[_,_,_,_]) M M M M (c:=[_,_,_,_]) (Nat.le_of_ble_eq_true M) (c':=[_,_,_,_]) M) (xF.all _) ?_
 rintro _ _ rfl
 refine ⟨zka,?_⟩
 refine zaD ?_
 repeat (first|refine zF ?_|refine zB ?_|refine zE ?_|refine zK M M M ?_|refine zY M M M M M ?_|refine yM M M M M M ?_|refine xD M M M (c':=[_]) M M M M ?_|refine xK (c:=[_]) M M M (fun _=>?_))
 rename_i b8
 refine yB [7,8,11] [0,1,2,3,4,5,6,7,8,9,10,11] (by kernel_rfl) M (by kernel_rfl) (by kernel_rfl) ?_
 refine zaF ?_
 refine xS M M M M (xV (vs:=[_]) (cells:=[_]) M M M M) (xF.all _) ?_
 rintro _ _ ⟨bn,rfl,rfl⟩
 refine ⟨zka,?_⟩
 skip
 refine xS M M M M (xR (X:=0) (ns:=[rg.group]) (h:=ha) M M k2 (wQ M) (kU.one M) M M M M M (by rw [List.length_singleton]; omega)) (xF.all _) ?_
 rintro v5 _ ⟨h5,ho5,rfl⟩
 obtain ⟨a5,c5,rfl⟩:=ho5.shape
 refine ⟨zka,?_⟩
 refine zaO ?_
 refine xS M M M M (kA M M M M M (c':=[_,_,_,_,_,_,_,_]) M) (.keep (.drop (by kernel_rfl) (.keep (.keep .nil)))) ?_
 rintro _ _ rfl
 refine ⟨zka,?_⟩
 repeat (refine yI ?_)
 skip
 refine yB [17] [0,1,2,3,4,5,6,7,8,9,10,11,12,13,14,15,16,17] (by kernel_rfl) M (by kernel_rfl) (by kernel_rfl) ?_
 refine zeQ ?_
 refine yD M M M M (pv_closure (cap:=[_,_,_]) M) ?_
 skip
 have hT3:uL w0 X tb { c.cur with asked:=c.cur.asked++[rg.group] } _:=⟨vr,_,vw',ap,cp,hr,h5,hw,rfl,k1,ho5,k3,k4⟩
 have hP:xT w0 X b { c with cur:={ c.cur with asked:=c.cur.asked++[rg.group] } } ⟨vmem,vr0,vsets,.slice am c.m.rngs.length cm,vg,ve,vd,vrq,.pointer (some ⟨tb,0,none⟩),vow,vw,vco,vou,van⟩ tb ps hG hE hD hR _ hK hO :=
  xT.mk P.mem P.rngs0 P.sets P.mr P.guess P.ended P.dbts P.reqs P.opn P.own (.inl hT3) P.waits P.coord P.out P.ansd
 have hP2:=hP.mono (L:=X+(pt b8 (.cells [pB tb].toArray 92 (0,0))+(pt b2 (.cells [.int .i64 blk].toArray 3 (0,0))+pt b1 (.cells [pB b].toArray 24 (0,0))))) M
 have hask:=asks_spec w0 _ b tb { c with cur:={ c.cur with asked:=c.cur.asked++[rg.group] } } _ n ⟨_,ps,hG,hE,hD,hR,_,hK,hO,hP2,rfl⟩ ⟨hB.seq,hB.clock,hB.reqs,hB.ops,hB.out,hB.id⟩ hn rg.group hgr ⟨1,0,0,c.cur.id,c.cur.age,rg.epoch,0,0,blk,0,0,0,0,[],[],[],[]⟩ _ (rd_bare w0 _ _ rfl M M M) later hl (.read blk) (.func (.func 223) #[] [pB b8,pB b2,pB b1].toArray) ⟨b8,b2,b1,rfl,jI,jI,jI⟩
 refine xU M M M M (zQ M M M) hask (.drop (by kernel_rfl) (.drop (by kernel_rfl) (.drop (by kernel_rfl) (.drop (by kernel_rfl) (.drop (by kernel_rfl) (.drop (by kernel_rfl) (.drop (by kernel_rfl) (.drop (by kernel_rfl) .nil)))))))) ?_
 rintro _ _ ⟨p,S',rfl,hL,rfl⟩
 refine ⟨trivial,?_⟩
 repeat (refine yI ?_)
 skip
 exact ⟨[],_,_,trivial,hL.after,yJ.out⟩
variable (r:Res) (ad:Option Addr) (cp:Nat)
theorem heardRead_spec (hS:kT w0 X b tb c S) (hB:Bd n c) (hF:xG c) (hn:n+c.cur.parts.length+c.cur.asked.length+10≤1000000000) (hm:c.m.rngs.length≤1000000000) (ho:c.opn=true) (hid:I64 c.cur.id) (hrl:c.cur.reads.length≤1000000000)
  (hr:RdL w0 X (.slice ad r.data.length cp) r.data) (hlen:r.data.length≤1000000000) (blk:Int) (p q s:Nat) (hp:At w0 X p 0 [pB tb]) (hq:At w0 X q 0 [.int .i64 blk]) (hs:At w0 X s 0 [pB b]) :
  yO Tryz.prog w0 223 [.agg [.int .i64 r.code,.slice ad r.data.length cp].toArray,pB p,pB q,pB s] (X+S) (fun v h'=>kP w0 X b tb (xX c (.read blk) r) h'):=by
 refine zN Tryz.func223 M Tryz.ntmps223 Tryz.results223 M fun fr=>?_
 repeat (first|refine zF ?_|refine zR ?_|refine zB ?_|refine zE ?_|refine zY M M M M M ?_|refine yM M M M M M ?_|refine xN M (c:=[_,_]) M M M (fun _=>?_))
 refine yF M M (yK M M) (fun h=>?_) (fun h=>?_)
 ·simp only [xX,if_pos h]
  obtain ⟨⟨vmem,vr0,vsets,vmr,vg,ve,vd,vrq,vop,vow,vw,vco,vou,van⟩,ps,hG,hE,hD,hR,hT,hK,hO,P,rfl⟩:=hS
  have hT2:uL w0 X tb c.cur hT:=by
   rcases P.txn with h|h
   ·exact h
   ·rw [h.1] at ho; cases ho
  obtain ⟨vr,va,vw',ap,cp',hr',ha,hw,rfl,k1,k2,k3,k4⟩:=hT2
  obtain ⟨ar,cr,rfl⟩:=k1.shape
  refine zcY ?_
  refine yB [8,10,11,14] [0,1,2,3,4,5,6,7,8,9,10,11,12,13,14] (by kernel_rfl) M (by kernel_rfl) (by kernel_rfl) ?_
  repeat (first|refine yH M M M M M ?_|refine yD M M M M (zZ M M M) ?_|refine yQ M M M M (yE M) (zG M (zS M)) ?_|refine W_at M M (by assumption) M M M M M ?_)
  refine xU M M M M (zQ M M M) (cloneBB_spec w0 X _ r.data hr (by omega)) (xF.all _) ?_
  rintro vc _ ⟨hc,hcl,rfl⟩
  obtain ⟨a4,c4,rfl⟩:=hcl.shape
  have hnew:Rep.rd w0 (X+hc) (⟨blk,r.data⟩:Bof) [.int .i64 blk,.slice a4 r.data.length c4]:=⟨a4,c4,rfl,hcl.plainB.rd (X:=0) (R:=X)⟩
  refine ⟨zka,?_⟩
  repeat (refine yD M M M M (wJ (vs:=[_,_]) (cells:=[_,_]) M M) ?_)
  refine xS M M M M (xV (vs:=[_]) (cells:=[_,_]) M M M M) (xF.all _) ?_
  rintro _ _ ⟨bn,rfl,rfl⟩
  refine ⟨zka,?_⟩
  skip
  refine xS M M M M (xR (X:=X+hc) (ns:=[_]) (h:=hr') M M (k1.mono M) (wQ M) (kU.one hnew) M M M M M (by rw [List.length_singleton]; omega)) (xF.all _) ?_
  rintro v5 _ ⟨h5,ho5,rfl⟩
  obtain ⟨a5,c5,rfl⟩:=ho5.shape
  refine ⟨zka,?_⟩
  refine zaO ?_
  refine xS M M M M (kA M M M M M (c':=[_,_,_,_,_,_,_,_]) M) (.keep (.keep (.drop (by kernel_rfl) (.keep (.keep .nil))))) ?_
  rintro _ _ rfl
  refine ⟨zka,?_⟩
  repeat (refine yI ?_)
  repeat (first|refine zB ?_|refine zY M M M M M ?_|refine yM M M M M M ?_|refine wA M (by assumption) M M M M ?_|refine yL (vs:=[_]) (cells:=[_,_,_]) M M M M ?_)
  have P2:=P.mono (L:=X+hc) (R:=hc) M
  have hT3:uL w0 (X+hc) tb { c.cur with reads:=c.cur.reads++[⟨blk,r.data⟩] } _:=⟨_,va,vw',ap,cp',h5,ha,hw,rfl,ho5,k2,k3.mono M,k4.mono M⟩
  have hP:xT w0 (X+hc) b { c with cur:={ c.cur with reads:=c.cur.reads++[⟨blk,r.data⟩] } } ⟨vmem,vr0,vsets,vmr,vg,ve,vd,vrq,vop,vow,vw,vco,vou,van⟩ tb ps hG hE hD hR _ hK hO :=
   xT.mk P2.mem P2.rngs0 P2.sets P2.mr P2.guess P2.ended P2.dbts P2.reqs P2.opn P2.own (.inl hT3) P2.waits P2.coord P2.out P2.ansd
  refine zX M M (zQ M M M) (qL w0 (X+hc) b tb { c with cur:={ c.cur with reads:=c.cur.reads++[⟨blk,r.data⟩] } } _ ⟨_,ps,hG,hE,hD,hR,_,hK,hO,hP,rfl⟩ ⟨0,0,r.data⟩ ad cp (hr.mono M)) ?_
  rintro _ _ hA
  repeat (refine zE ?_)
  exact ⟨[],_,_,trivial,hA.after.trans,yJ.out⟩
 ·simp only [xX,if_neg h]
  refine zaA ?_
  refine yF M M (yK M M) (fun h2=>?_) (fun h2=>?_)
  ·simp only [if_pos h2]
   repeat (first|refine zB ?_|refine zE ?_|refine zK M M M ?_|refine zJ M ?_|refine wA M (by assumption) M M M M ?_)
   refine zX M M (zQ M M M) (askRead_spec w0 X b tb c S n hS hB (by omega) hF hm ho (by omega) blk 1 (by omega)) ?_
   rintro _ _ hA
   repeat (refine zE ?_)
   exact ⟨[],_,_,trivial,hA,yJ.out⟩
  ·simp only [if_neg h2]
   refine zeO ?_
   refine zX M M (zQ M M M) (losing_spec w0 X b tb c S n hS hB hF hn ho hid r.code) ?_
   rintro _ _ hA
   repeat (refine zE ?_)
   exact ⟨[],_,_,trivial,hA,yJ.out⟩
end
theorem bd_turn {n:Nat} {c:Cl} (hB:Bd n c) (hn:n+1≤1000000000):Bd (n+1) (wF c):=by
 unfold wF
 split
 ·exact hB.mono (by omega)
 ·exact Bd.ask (c:={ c with stale:=true }) ⟨hB.seq,hB.clock,hB.reqs,hB.ops,hB.out,hB.id⟩ (by omega) 0 (o:=op0 8) (uP (by unfold NumsIn I64; simp [op0]) M M M M) 0 true .look
theorem bd_learn {n:Nat} {c:Cl} (hB:Bd n c) (l:List Bt):Bd n (jS c l):=by
 unfold jS
 split
 ·exact ⟨hB.seq,hB.clock,hB.reqs,hB.ops,hB.out,hB.id⟩
 ·exact hB
theorem zeR {G G' : Prop} (h : G') (f : Zh G'→G:=by intro h; (repeat (first|refine zF ?_|refine zB ?_|refine zE ?_|refine zK M M M ?_|refine zJ M ?_|refine wA M (by assumption) M M M M ?_)); exact h.o) : G:=f ⟨h⟩
section
variable (w0:World) (X:Hp) (b tb:Nat) (c:Cl) (S:Hp) (n:Nat)
theorem again_spec (hS:kT w0 X b tb c S) (hB:Bd n c) (hn:n≤1000000000) (hF:xG c) (hm:c.m.rngs.length≤1000000000) (x:Cal) (d:Value) (p q:Nat) (hp:At w0 X p 0 [pB b]) (hq:At w0 X q 0 (xW x d)) :
  yO Tryz.prog w0 234 [pB p,pB q] (X+S) (fun v h'=>kP w0 X b tb (runW c (.again x)) h'):=by
 refine zN Tryz.func234 M Tryz.ntmps234 Tryz.results234 M fun fr=>?_
 repeat (first|refine zB ?_|refine wA M (by assumption) M M M M ?_|refine vU M (by assumption) M M M M ?_)
 refine zX M M (zQ M M M) (keeping_spec w0 X b tb c S n hS hB hn hF hm x d 0 (by omega)) ?_
 rintro _ _ hA
 repeat (refine zE ?_)
 exact ⟨[],_,_,trivial,hA,yJ.out⟩
theorem keptRun_spec (hS:kT w0 X b tb c S) (hB:Bd n c) (hn:n≤1000000000) (hF:xG c) (hm:c.m.rngs.length≤1000000000) (x:Cal) (d:Value) (p q:Nat) (hp:At w0 X p 0 [pB b]) (hq:At w0 X q 0 (xW x d)) :
  yO Tryz.prog w0 156 [pB p,pB q] (X+S) (fun v h'=>kP w0 X b tb (runW c (.kept x)) h'):=by
 refine zN Tryz.func156 M Tryz.ntmps156 Tryz.results156 M fun fr=>?_
 repeat (first|refine zB ?_|refine wA M (by assumption) M M M M ?_|refine vU M (by assumption) M M M M ?_)
 refine zX M M (zQ M M M) (keeping_spec w0 X b tb c S n hS hB hn hF hm x d 0 (by omega)) ?_
 rintro _ _ hA
 repeat (refine zE ?_)
 exact ⟨[],_,_,trivial,hA,yJ.out⟩
theorem readRun_spec (hS:kT w0 X b tb c S) (hB:Bd n c) (hn:n≤1000000000) (hF:xG c) (hm:c.m.rngs.length≤1000000000) (ho:c.opn=true) (hal:c.cur.asked.length≤1000000000) (x:Cal) (d:Value) (p q:Nat) (hp:At w0 X p 0 [pB b]) (hq:At w0 X q 0 (xW x d)) :
  yO Tryz.prog w0 147 [pB p,pB q] (X+S) (fun v h'=>kP w0 X b tb (runW c (.read x)) h'):=by
 refine zN Tryz.func147 M Tryz.ntmps147 Tryz.results147 M fun fr=>?_
 repeat (first|refine zB ?_|refine zY M M M M M ?_|refine gO M (by assumption) M M M M ?_|refine wA M (by assumption) M M M M ?_)
 refine zX M M (zQ M M M) (askRead_spec w0 X b tb c S n hS hB hn hF hm ho hal x.block 0 (by omega)) ?_
 rintro _ _ hA
 repeat (refine zE ?_)
 exact ⟨[],_,_,trivial,hA,yJ.out⟩
variable (r:Res) (ad:Option Addr) (cp:Nat)
theorem heardKept_spec (hS:kT w0 X b tb c S) (hB:Bd n c) (hF:xG c) (hn:n+1≤1000000000) (hm:c.m.rngs.length≤1000000000) (hr:RdL w0 X (.slice ad r.data.length cp) r.data) (x:Cal) (d:Value) (p q:Nat) (hp:At w0 X p 0 [pB b]) (hq:At w0 X q 0 (xW x d)) :
  yO Tryz.prog w0 232 [.agg [.int .i64 r.code,.slice ad r.data.length cp].toArray,pB p,pB q] (X+S) (fun v h'=>kP w0 X b tb (xX c (.kept x) r) h'):=by
 have hB1:=bd_turn hB hn
 have hF1:=hF.adds (qM c)
 have hk1:=vB (qM c)
 refine zN Tryz.func232 M Tryz.ntmps232 Tryz.results232 M fun fr=>?_
 repeat (first|refine zF ?_|refine zR ?_|refine zB ?_|refine zE ?_|refine zY M M M M M ?_|refine yM M M M M M ?_|refine xN M (c:=[_,_]) M M M (fun _=>?_))
 refine yF M M (yK M M) (fun h=>?_) (fun h=>?_)
 ·simp only [xX,if_pos h]
  refine zdO ?_
  refine zX M M (zQ M M M) (keeping_spec w0 X b tb c S n hS hB (by omega) hF hm x d 1 (by omega)) ?_
  rintro _ _ hA
  repeat (refine zE ?_)
  exact ⟨[],_,_,trivial,hA,yJ.out⟩
 ·simp only [xX,if_neg h]
  refine zaA ?_
  refine yF M M (yK M M) (fun h2=>?_) (fun h2=>?_)
  ·simp only [if_pos h2]
   refine zeR ?_
   refine zX M M (zQ M M M) (turn_spec w0 X b tb c S n hS hB (by omega)) ?_
   rintro _ _ ⟨E,S1,hS1,rfl⟩
   have hp1:=hp.mono (L:=X+E) M
   have hq1:=hq.mono (L:=X+E) M
   repeat (first|refine zB ?_|refine zE ?_|refine wA M (by assumption) M M M M ?_|refine uI M M M ?_)
   refine zX M M (zQ M M M) (mapping_spec w0 (X+E) b tb (wF c) S1 hS1 (.again x) 234 [pB p,pB q] ⟨p,q,d,rfl,hp1,hq1⟩ (fun _=>again_spec w0 (X+E) b tb (wF c) S1 (n+1) hS1 hB1 hn hF1 (by rw [hk1.2.2.2.2.2.2.2.2.2.2.2.1]; exact hm) x d p q hp1 hq1)) ?_
   rintro _ _ hA
   repeat (refine zE ?_)
   exact ⟨[],_,_,trivial,hA.trans,yJ.out⟩
  ·simp only [if_neg h2]
   repeat (first|refine zB ?_|refine zE ?_|refine zK M M M ?_|refine zY M M M M M ?_|refine yM M M M M M ?_|refine zI M ?_|refine wA M (by assumption) M M M M ?_|refine yL (vs:=[_,_]) (cells:=[_,_,_]) M M M M ?_)
   refine zX M M (zQ M M M) (qL w0 X b tb c S hS ⟨r.code,0,r.data⟩ ad cp hr) ?_
   rintro _ _ hA
   repeat (refine zE ?_)
   exact ⟨[],_,_,trivial,hA.after,yJ.out⟩
theorem heardFin_spec (hS:kT w0 X b tb c S) (hB:Bd n c) (hn:n≤1000000000) (hr:RdL w0 X (.slice ad r.data.length cp) r.data) (hlen:r.data.length≤1000000000) (x:Cal) (d:Value) (ep:Int) (hg:grp x.src) (p q s:Nat) (hp:At w0 X p 0 [pB b]) (hq:At w0 X q 0 (xW x d)) (hs:At w0 X s 0 [.int .i64 ep]) :
  yO Tryz.prog w0 300 [.agg [.int .i64 r.code,.slice ad r.data.length cp].toArray,pB p,pB q,pB s] (X+S) (fun v h'=>kP w0 X b tb (jC (quietF (jS c r.data) x.src.toNat ⟨7,0,0,0,0,ep,0,0,0,0,0,0,0,[],[],[],[]⟩) 0) h'):=by
 refine zN Tryz.func300 M Tryz.ntmps300 Tryz.results300 M fun fr=>?_
 repeat (first|refine zF ?_|refine zB ?_|refine zE ?_|refine zY M M M M M ?_|refine yM M M M M M ?_|refine wA M (by assumption) M M M M ?_|refine xN M (c:=[_,_]) M M M (fun _=>?_))
 refine zX M M (zQ M M M) (learning_spec w0 X b tb c S hS r.data ad cp hr hlen) ?_
 rintro _ _ ⟨rfl,E,S1,hS1,rfl⟩
 have hp1:=hp.mono (L:=X+E) M
 have hq1:=hq.mono (L:=X+E) M
 have hs1:=hs.mono (L:=X+E) M
 repeat (first|refine zF ?_|refine zB ?_|refine zE ?_|refine zY M M M M M ?_|refine gO M (by assumption) M M M M ?_|refine wA M (by assumption) M M M M ?_|refine yL (vs:=[_,_]) (cells:=[_,_,_,_,_,_,_,_,_,_,_,_,_,_,_,_,_]) M M M M ?_)
 have hqt:=quiet_spec w0 (X+E) b tb (jS c r.data) S1 n hS1 (bd_learn hB _) hn x.src.toNat ⟨7,0,0,0,0,ep,0,0,0,0,0,0,0,[],[],[],[]⟩ _ (rd_bare w0 _ _ rfl M M M)
 rw [Int.toNat_of_nonneg hg.1] at hqt
 refine zX M M (zQ M M M) hqt ?_
 rintro _ _ ⟨S2,hS2,rfl⟩
 repeat (first|refine zB ?_|refine zE ?_|refine wA M (by assumption) M M M M ?_)
 refine zX M M (zQ M M M) (xL w0 (X+E) b tb _ S2 hS2 0) ?_
 rintro _ _ hA
 repeat (refine zE ?_)
 exact ⟨[],_,_,trivial,hA.after.trans,yJ.out⟩
end
theorem cloneInts_spec (w0:World) (X:Hp) (v:Value) (xs:List Int) (hv:RdL w0 X v xs) (hl:xs.length≤1000000000000) :
  yO Tryz.prog w0 284 [v] X (fun r h'=>∃ h,OwL w0 X xs r h∧X+h=h'):=by
 obtain ⟨es,h1,h2⟩:=id hv
 obtain ⟨a,c,rfl⟩:=hv.shape
 refine zN Tryz.func284 M Tryz.ntmps284 Tryz.results284 M fun fr=>?_
 refine zaC ?_
 refine L_bool M M (qD M M) (fun h3=>?_) (fun h3=>?_)
 ·obtain rfl:xs=[]:=by
   cases xs with
   | nil=>rfl
   | cons x l =>
    obtain ⟨b,o,rfl,_⟩:=hv.at (i:=0) (by simp)
    simp at h3
  refine zaB ?_
  exact ⟨[_],X,_,⟨rfl,trivial⟩,⟨0,OwL.nil _ none,yA _⟩,yJ.out⟩
 ·repeat (first|refine zF ?_|refine zB ?_|refine zE ?_|refine zK M M M ?_|refine zP ?_|refine zI M ?_|refine vM (vs:=[]) (cells:=[]) M M M M M M (fun _=>?_))
  refine kF M M (xR (xs:=([]:List Int)) (h:=0) M M (OwL.nil X _) (h1.frame) h2 M M M M M (by simp; omega)) ?_
  rintro v' _ ⟨h',hr',rfl⟩
  refine zaE ?_
  exact ⟨[_],X+h',_,⟨rfl,trivial⟩,⟨h',hr',rfl⟩,yJ.out⟩
def NewP (me txn:Int) (n:Nat) (acc:Int):Prop:=1≤me∧me≤199∧1≤txn∧txn≤1099511627776∧n≠0∧1≤acc∧acc≤7∧acc % 2≠0
instance (me txn:Int) (n:Nat) (acc:Int):Decidable (NewP me txn n acc):=by unfold NewP; infer_instance
theorem newP_t {me txn:Int} {n:Nat} {acc:Int} (h:¬ NewP me txn n acc):true=true↔¬ NewP me txn n acc:=⟨fun _=>h,fun _=>rfl⟩
theorem newP_f {me txn:Int} {n:Nat} {acc:Int} (h:NewP me txn n acc):false=true↔¬ NewP me txn n acc:=⟨fun e=>(by cases e),fun e=>absurd h e⟩
theorem newOk_eq (me txn:Int) (parts:List Int) (acc:Int):newOk me txn parts acc=(decide (NewP me txn parts.length acc)&&risesF parts 0):=by
 unfold newOk NewP
 congr 1
 refine decide_eq_decide.2 ?_
 rw [show (parts≠[])↔parts.length≠0 by simp]
theorem coNew_spec (w0:World) (X:Hp) (me txn:Int) (parts:List Int) (a:Option Addr) (cp:Nat) (acc:Int) (hv:RdL w0 X (.slice a parts.length cp) parts) (hl:parts.length≤1000000000) :
  yO Tryz.prog w0 213 [.int .i64 me,.int .i64 txn,.slice a parts.length cp,.int .i64 acc] X
   (fun r h'=>(newOk me txn parts acc=false∧r=.tuple #[.pointer none,.int .i64 3]∧X=h') ∨
    (newOk me txn parts acc=true∧∃ kb K,r=.tuple #[.pointer (some ⟨kb,0,none⟩),.int .i64 0]∧uW w0 kb (newC me txn parts acc) K∧X+K=h')):=by
 rw [newOk_eq]
 refine zN Tryz.func213 M Tryz.ntmps213 Tryz.results213 M fun fr=>?_
 refine zF ?_
 refine jP (fun g' L'=>Sub g' [(0,.int .i64 me),(1,.int .i64 txn),(2,.slice a parts.length cp),(3,.int .i64 acc)]∧L'=X+fr) ?_ ?_
 ·refine zcO ?_
  exact ⟨zsb,rfl⟩
 rintro g' _ ⟨hsub,rfl⟩
 refine jV hsub ?_
 clear hsub g'
 refine zF ?_
 refine jP (fun g' L'=>∃ bd:Bool,Sub g' [(0,.int .i64 me),(1,.int .i64 txn),(2,.slice a parts.length cp),(3,.int .i64 acc),(10,.bool bd)]∧(bd=true↔¬ NewP me txn parts.length acc)∧L'=X+fr) ?_ ?_
 ·repeat' (first|refine zB ?_|refine zE ?_|refine zK M M M ?_|refine yT M M M ?_|refine xE M M ?_|refine yF M M (yS M M) (fun _=>?_) (fun _=>?_)|refine yF M M (kB M M) (fun _=>?_) (fun _=>?_)|refine yF M M (yK M M) (fun _=>?_) (fun _=>?_)|(first|exact ⟨true,zsb,newP_t (by unfold NewP; omega),rfl⟩|exact ⟨false,zsb,newP_f (by unfold NewP; omega),rfl⟩)|done)
  refine yG M M (pv_rem_nn M M (by omega) (by decide)) ?_
  repeat' (first|refine zE ?_|refine zK M M M ?_|refine yF M M (yK M M) (fun _=>?_) (fun _=>?_)|(first|exact ⟨true,zsb,newP_t (by unfold NewP; omega),rfl⟩|exact ⟨false,zsb,newP_f (by unfold NewP; omega),rfl⟩)|done)
 ·rintro g' _ ⟨bd,hsub,hbd,rfl⟩
  refine jV hsub ?_
  clear hsub g'
  refine zaS ?_
  refine yN parts.length (fun k g L=>∃ (b2:Bool) (last:Int),g=[(0,.int .i64 me),(1,.int .i64 txn),(2,.slice a parts.length cp),(3,.int .i64 acc),(10,.bool b2),(11,.int .i64 last),(46,.slice a parts.length cp),(47,.int .i64 parts.length),(48,.int .i64 k)]∧(bd||!risesF parts 0)=(b2||!risesF (parts.drop k) last)∧L=X+fr) _
   ⟨bd,0,rfl,rfl,rfl⟩ zsb ?_
  rintro k g L hk ⟨b2,last,rfl,hri,rfl⟩
  refine zaH ?_
  refine yF M M (yS M M) (fun n1=>?_) (fun n1=>?_)
  ·have hx:k<parts.length:=by omega
   obtain ⟨bq,oq,rfl,e,rfl,hat⟩:=hv.at hx
   rw [List.drop_eq_getElem_cons hx] at hri
   simp only [risesF] at hri
   generalize parts[k]=p at hri hat
   cases b2
   ·refine zaT ?_
    refine yF M M (dD M M) (fun n2=>?_) (fun n2=>?_)
    ·refine zeB ?_
     exact ⟨hx,_,zsb,true,p,rfl,by rw [hri,decide_eq_false (fun h=>by omega)]; simp,rfl⟩
    ·repeat (refine zK M M M ?_)
     refine yF M M (kB M M) (fun n3=>?_) (fun n3=>?_)
     ·refine zaI ?_
      exact ⟨hx,_,zsb,true,p,rfl,by rw [hri,decide_eq_false (fun h=>by omega)]; simp,rfl⟩
     ·refine zaI ?_
      exact ⟨hx,_,zsb,false,p,rfl,by rw [hri,decide_eq_true ⟨by omega,by omega⟩]; simp,rfl⟩
   ·repeat (first|refine zF ?_|refine zR ?_|refine zB ?_|refine zE ?_|refine zK M M M ?_|refine xE M M ?_|refine zP ?_|refine zJ M ?_|refine yU M M (by omega) (by omega) M M ?_|refine kC M M (by omega) M M ?_|refine wA M (by assumption) M M M M ?_)
    exact ⟨hx,_,zsb,true,p,rfl,by rw [hri]; simp,rfl⟩
  ·obtain rfl:k=parts.length:=by omega
   rw [List.drop_length] at hri
   simp only [risesF,Bool.not_true,Bool.or_false] at hri
   subst hri
   have hok:(decide (NewP me txn parts.length acc)&&risesF parts 0)=!(bd||!risesF parts 0):=by
    have:decide (NewP me txn parts.length acc)=!bd:=by
     cases bd
     ·exact decide_eq_true (by
        by_cases h:NewP me txn parts.length acc
        ·exact h
        ·have:=hbd.2 h; cases this)
     ·exact decide_eq_false (hbd.1 M)
    rw [this]; simp
   rw [hok]
   generalize (bd||!risesF parts 0)=bb at *
   cases bb
   ·repeat (first|refine zF ?_|refine yC ?_|refine zB ?_|refine zE ?_|refine zK M M M ?_|refine zP ?_|refine zI M ?_)
    refine zX M M (zQ M M M) (cloneInts_spec w0 X _ parts hv (by omega)) ?_
    rintro vc _ ⟨hc,hcl,rfl⟩
    obtain ⟨ac,cc,rfl⟩:=hcl.shape
    repeat (refine zK M M M ?_)
    refine kF M M ev_mapNew ?_
    rintro _ _ ⟨ab,rfl,rfl⟩
    skip
    refine kF M M ev_mapNew ?_
    rintro _ _ ⟨cb,rfl,rfl⟩
    repeat (first|refine zE ?_|refine zK M M M ?_|refine zM ?_|refine yL (vs:=[_,_,_,_,_,_]) (cells:=[_,_,_,_,_,_,_,_,_,_,_]) M M M M ?_|refine xN M (c:=[_,_,_,_,_,_,_,_,_,_,_]) M M M (fun _=>?_))
    rename_i b1
    have hK:uW w0 b1 (newC me txn parts acc) (cooC b1 me txn (.slice ac parts.length cc) acc (.map (some ab)) (.map (some cb)) (.bool false) 0 (.map none) (.map none) 0+(hc+(pt ab (.map #[] 0)+(pt cb (.map #[] 0)+(0+0))))) :=
     ⟨⟨.slice ac parts.length cc,.map none,.map none,ab,cb,hc,pt ab (.map #[] 0),pt cb (.map #[] 0),0,0,gF.2 (gF.1 hcl),⟨[],pt ab (.map #[] 0),0,qT.empty ab,rfl,(yA _).symm⟩,qT.empty cb,⟨rfl,rfl⟩,⟨rfl,rfl⟩,rfl⟩⟩
    refine ⟨[_,_],X+(cooC b1 me txn (.slice ac parts.length cc) acc (.map (some ab)) (.map (some cb)) (.bool false) 0 (.map none) (.map none) 0+(hc+(pt ab (.map #[] 0)+(pt cb (.map #[] 0)+(0+0))))),0,⟨rfl,rfl,trivial⟩,.inr ⟨rfl,b1,_,rfl,hK,rfl⟩,?_⟩
    show cooC b1 me txn (.slice ac parts.length cc) acc (.map (some ab)) (.map (some cb)) (.bool false) 0 (.map none) (.map none) 0+(pt cb (.map #[] 0)+(pt ab (.map #[] 0)+(X+hc+fr)))=_
    generalize cooC b1 me txn (.slice ac parts.length cc) acc (.map (some ab)) (.map (some cb)) (.bool false) 0 (.map none) (.map none) 0=Z
    simp only [yA]
    ac_rfl
   ·repeat (first|refine zF ?_|refine yC ?_|refine zB ?_|refine zE ?_|refine zK M M M ?_|refine zM ?_|refine zJ M ?_|refine zI M ?_)
    exact ⟨[_,_],X,_,⟨rfl,rfl,trivial⟩,.inl ⟨rfl,rfl,rfl⟩,yJ.out⟩
end Sl
end Go.Proofs.YtfahijncpmlhjaaGreat
namespace Go.Proofs.YtfahijncpmlhjaaGreat
open Go Go.RowKit
namespace Sl
section
variable {β:Type}
structure Ordr (lt:β→β→Prop):Prop where
 asym:∀ {a b},lt a b→¬ lt b a
 le:∀ {a b c},¬ lt b a→¬ lt c b→¬ lt c a
def Srt (lt:β→β→Prop) (l:List β):Prop:=l.Pairwise fun a b=>¬ lt b a
variable {lt:β→β→Prop}
theorem srt_one (x:β):Srt lt [x]:=List.pairwise_singleton _ _
theorem srt_app {l m:List β}:Srt lt (l++m)↔Srt lt l∧Srt lt m∧∀ a∈l,∀ b∈m,¬ lt b a:=List.pairwise_append
theorem srt_idx {l:List β} (h:Srt lt l) {i j:Nat} (hj:j<l.length) (hij:i<j):¬ lt l[j] (l[i]'(by omega)):=(List.pairwise_iff_getElem.1 h) i j (by omega) hj hij
theorem Ordr.irr (o:Ordr lt) (a:β):¬ lt a a:=fun h=>o.asym h h
theorem srt_idx' (o:Ordr lt) {l:List β} (h:Srt lt l) {i j:Nat} (hj:j<l.length) (hij:i≤j):¬ lt l[j] (l[i]'(by omega)):=by
 rcases Nat.lt_or_eq_of_le hij with h1|h1
 ·exact srt_idx h hj h1
 ·subst h1; exact o.irr _
theorem srt_mid {l m:List β} {x:β} (hs:Srt lt (l++m)) (h1:∀ a∈l,¬ lt x a) (h2:∀ b∈m,¬ lt b x):Srt lt (l++x::m):=by
 obtain ⟨s1,s2,s3⟩:=srt_app.1 hs
 refine srt_app.2 ⟨s1,List.pairwise_cons.2 ⟨h2,s2⟩,?_⟩
 intro a ha b hb
 rcases List.mem_cons.1 hb with rfl|hb
 ·exact h1 a ha
 ·exact s3 a ha b hb
theorem all_le_last (o:Ordr lt) {l:List β} (hs:Srt lt l) {x:β} (h:∀ h:0<l.length,¬ lt x (l[l.length - 1])):∀ a∈l,¬ lt x a:=by
 intro a ha
 obtain ⟨i,hi,rfl⟩:=List.getElem_of_mem ha
 exact o.le (srt_idx' o hs (j:=l.length - 1) (by omega) (by omega)) (h (by omega))
end
set_option maxHeartbeats 16000000
set_option maxRecDepth 4000
set_option synthInstance.maxHeartbeats 400000
set_option synthInstance.maxSize 100000
attribute [local irreducible] xY yW xC
section
variable {α:Type} [ρ:Rep α] {w0:World} {X:Hp}
def bP (w0:World) (X:Hp) (zs:List (α × List Value)):Prop:=∀ z∈zs,ρ.rd w0 X z.1 z.2
abbrev uZ (zs:List (α × List Value)):List (List Value):=zs.map Prod.snd
abbrev ltc (c:α→α→Int):α × List Value→α × List Value→Prop:=fun p q=>c p.1 q.1<0
theorem bP.len {zs:List (α × List Value)} (h:bP w0 X zs):∀ e∈uZ zs,e.length=ρ.size:=by
 intro e he
 obtain ⟨z,hz,rfl⟩:=List.mem_map.1 he
 exact Rep.len (h z hz)
theorem bP.perm {zs zs':List (α × List Value)} (h:bP w0 X zs) (p:zs'.Perm zs):bP w0 X zs':=fun z hz=>h z (p.mem_iff.1 hz)
theorem bP.set {zs:List (α × List Value)} (h:bP w0 X zs) {z:α × List Value} (hz:ρ.rd w0 X z.1 z.2) (i:Nat):bP w0 X (zs.set i z):=by
 intro y hy
 rcases List.mem_or_eq_of_mem_set hy with hy|rfl
 ·exact h y hy
 ·exact hz
theorem allZ_app {l m:List (α × List Value)}:bP w0 X (l++m)↔bP w0 X l∧bP w0 X m :=
 ⟨fun h=>⟨fun z hz=>h z (List.mem_append_left _ hz),fun z hz=>h z (List.mem_append_right _ hz)⟩,fun ⟨h1,h2⟩ z hz=>(List.mem_append.1 hz).elim (h1 z) (h2 z)⟩
theorem allZ_cons {x:α × List Value} {l:List (α × List Value)}:bP w0 X (x::l)↔ρ.rd w0 X x.1 x.2∧bP w0 X l :=
 ⟨fun h=>⟨h x (List.mem_cons_self ..),fun z hz=>h z (List.mem_cons_of_mem _ hz)⟩,fun ⟨h1,h2⟩ z hz=>(List.mem_cons.1 hz).elim (fun e=>by rw [e]; exact h1) (h2 z)⟩
theorem bP.take {l:List (α × List Value)} (h:bP w0 X l) (k:Nat):bP w0 X (l.take k):=fun z hz=>h z (List.mem_of_mem_take hz)
theorem bP.drop {l:List (α × List Value)} (h:bP w0 X l) (k:Nat):bP w0 X (l.drop k):=fun z hz=>h z (List.mem_of_mem_drop hz)
theorem z_at {zs:List (α × List Value)} (h:bP w0 X zs) {b:Nat} {spare:List Value} {E:TypeId} {fz:Nat × Nat} {i:Nat} {z:α × List Value} (hi:zs[i]?=some z) :
  At w0 (pt b (.cells ((uZ zs).flatten++spare).toArray E fz)) b (0+i*ρ.size) z.2:=at_row h.len (by simp [uZ,hi])
theorem z_set {zs:List (α × List Value)} (h:bP w0 X zs) (spare:List Value) {i:Nat} (hi:i<zs.length) {z:α × List Value} (hz:z.2.length=ρ.size) :
  vD (0+i*ρ.size) z.2 ((uZ zs).flatten++spare)=(uZ (zs.set i z)).flatten++spare:=by
 have e:uZ zs=uZ (zs.take i)++zs[i].2::uZ (zs.drop (i+1)):=by
  show zs.map _=(zs.take i).map _++Prod.snd zs[i]::(zs.drop (i+1)).map _
  rw [← List.map_cons (f:=Prod.snd),← List.drop_eq_getElem_cons hi,← List.map_append,List.take_append_drop]
 have e2:uZ (zs.set i z)=uZ (zs.take i)++[z.2]++uZ (zs.drop (i+1)):=by
  rw [List.set_eq_take_append_cons_drop,if_pos hi]
  simp [uZ]
 have hl:(uZ (zs.take i)).length=i:=by simp [uZ]; omega
 rw [e,e2]
 have hA:=h.len
 rw [e] at hA
 have:=splice_row (fs:=uZ (zs.take i)) (rs:=uZ (zs.drop (i+1))) (r0:=zs[i].2) (e:=z.2) (spare:=spare) (size:=ρ.size) (fun x hx=>hA x (List.mem_append_left _ hx)) (hA _ (List.mem_append_right _ (List.mem_cons_self ..))) hz
 rw [hl] at this
 exact this
theorem z_room {zs:List (α × List Value)} (h:bP w0 X zs) (spare:List Value) {i:Nat} (hi:i<zs.length):0+i*ρ.size+ρ.size≤((uZ zs).flatten++spare).length:=by
 rw [List.length_append,jL h.len,List.length_map]
 have:=Nat.mul_le_mul_right ρ.size (show i+1≤zs.length by omega)
 rw [Nat.add_mul] at this
 omega
theorem ev_storeZ {P:Program} {L:Hp} {g:Env} {t:TypeId} {sz by':Nat} {zz:Value} [hi:Inf P t sz by' zz] {x y:Operand} {b:Nat} {spare:List Value} {e:TypeId} {R:Hp} {zs:List (α × List Value)} {i:Nat} {z:α × List Value} (h:bP w0 X zs) (hil:i<zs.length) (hz:ρ.rd w0 X z.1 z.2)
  (hx:ev g x=some (.pointer (some ⟨b,0+i*ρ.size,none⟩))) (hy:ev g y=some (.agg z.2.toArray)) (hsz:(ρ.size==sz)=true) [hb:HasPt b L (.cells ((uZ zs).flatten++spare).toArray e (0,0)) R] :
  EV P w0 L g (.store t x y) fun _ L'=>L'=pt b (.cells ((uZ (zs.set i z)).flatten++spare).toArray e (0,0))+R:=by
 have hs:ρ.size=sz:=by simpa using hsz
 refine wH (c:=(uZ zs).flatten++spare) hx hy (by rw [Rep.len hz]; exact hsz) (List.all_eq_true.2 (Rep.one hz)) (by rw [Rep.len hz]; exact z_room h spare hil) (z_set h spare hil (Rep.len hz))
theorem z_len {z:α × List Value} (hz:ρ.rd w0 X z.1 z.2) {sz:Nat} (hs:(ρ.size==sz)=true):(z.2.length==sz)=true:=by rw [Rep.len hz]; exact hs
end
section
variable {β:Type}
theorem adj_get (P S:List β) (x y:β):(P++x::y::S)[P.length]?=some x∧(P++x::y::S)[P.length+1]?=some y:=by
 constructor
 ·simp
 ·rw [List.getElem?_append_right (by omega)]; simp
theorem adj_set' (P S:List β) (x y:β):((P++x::y::S).set (P.length+1) x).set P.length y=P++y::x::S:=by
 rw [List.set_append_right _ _ (by omega),List.set_append_right _ _ (Nat.le_refl _)]
 simp
end
abbrev arrRng (b:Nat) (zs:List (Rng × List Value)) (spare:List Value):Hp:=pt b (.cells ((uZ zs).flatten++spare).toArray 80 (0,0))
theorem zbY {G G' : Prop} (h : G') (f : Zh G'→G:=by intro h; (repeat (first|refine yI ?_|refine yH M M M M M ?_|refine wI M M M M ?_|refine W_not M M M M ?_)); exact h.o) : G:=f ⟨h⟩
section
variable (w0:World) (X:Hp) (bl n cap:Nat) (spare:List Value) (k0:Nat) [hf:Fun Tryz.prog k0] (caps:List Value) (c:Rng→Rng→Int)
 (hp:∀ Y x y e f,Rep.rd w0 Y x e→Rep.rd w0 Y y f→yO Tryz.prog w0 k0 (.agg e.toArray::.agg f.toArray::caps) X (fun r h'=>r=.int .i64 (c x y)∧X=h'))
include hp
theorem insertionSortRng_spec (o:Ordr (ltc c)) (a b:Nat) (A U C:List (Rng × List Value)) (hz:bP w0 X (A++(U++C))) (ha:a=A.length) (hb:b=A.length+U.length) (hn:n=A.length+U.length+C.length) (hmax:n≤1000000000) :
  yO Tryz.prog w0 345 [.slice (some ⟨bl,0,none⟩) n cap,.int .i64 (a:Int),.int .i64 (b:Int),.func (.func k0) #[] caps.toArray] (X+arrRng bl (A++(U++C)) spare)
   (fun r h'=>r=.tuple #[]∧∃ W,W.Perm U∧Srt (ltc c) W∧X+arrRng bl (A++(W++C)) spare=h'):=by
 refine zN Tryz.func345 M Tryz.ntmps345 Tryz.results345 M fun fr=>?_
 repeat (first|refine zF ?_|refine zR ?_|refine zB ?_|refine zE ?_|refine zK M M M ?_|refine yU M M (by omega) (by omega) M M ?_)
 refine yN U.length (fun k g L=>∃ (W:List (Rng × List Value)) (R:Hp),g=[(0,.slice (some ⟨bl,0,none⟩) n cap),(1,.int .i64 (a:Int)),(2,.int .i64 (b:Int)),(3,.func (.func k0) #[] caps.toArray),(8,.int .i64 ((a+1+k:Nat):Int))]∧W.Perm (U.take (k+1))∧Srt (ltc c) W ∧
   L=X+arrRng bl (A++(W++(U.drop (k+1)++C))) spare+fr+R) _ ⟨U.take 1,0,rfl,List.Perm.refl _,?_,by rw [← List.append_assoc (U.take 1),List.take_append_drop,yA]⟩ zsb ?_
 ·match U with
  | []=>exact List.Pairwise.nil
  | x::l=>exact srt_one x
 rintro k g L hk ⟨W,R,rfl,hw,hs,rfl⟩
 have hwl:=hw.length_eq
 rw [List.length_take] at hwl
 refine zaV ?_
 refine yF M M (yS M M) (fun n1=>?_) (fun n1=>?_)
 ·have hx:k+1<U.length:=by omega
  have hzA:=hz
  simp only [allZ_app] at hzA
  obtain ⟨zA,zU,zC⟩:=hzA
  have zW:bP w0 X W:=(zU.take _).perm hw
  have zy:Rep.rd w0 X U[k+1].1 U[k+1].2:=zU _ (List.getElem_mem hx)
  have zD:bP w0 X (U.drop (k+2)):=zU.drop _
  have htk:U.take (k+2)=U.take (k+1)++[U[k+1]]:=List.take_succ_eq_append_getElem hx
  rw [List.drop_eq_getElem_cons hx]
  have hdl:(U.drop (k+2)).length=U.length - (k+2):=List.length_drop ..
  generalize hy:U[k+1]=y at *
  generalize hD:U.drop (k+1+1)=D at *
  refine zaZ ?_
  refine yN W.length (fun t g L=>∃ (j:Nat) (W1 W2:List (Rng × List Value)) (R:Hp),W=W1++W2∧W2.length=t∧j=a+W1.length∧(∀ w∈W2,ltc c y w)∧g=[(0,.slice (some ⟨bl,0,none⟩) n cap),(1,.int .i64 (a:Int)),(2,.int .i64 (b:Int)),(3,.func (.func k0) #[] caps.toArray),(8,.int .i64 ((a+1+k:Nat):Int)),(9,.int .i64 (j:Int))] ∧
    L=X+arrRng bl (A++(W1++y::(W2++(D++C)))) spare+fr+R) _ ⟨a+1+k,W,[],_,by rw [List.append_nil],rfl,by omega,by simp,rfl,by simp only [List.nil_append,List.cons_append]; exact yJ.out⟩ zsb ?_
  clear R
  rintro t g L ht ⟨j,W1,W2,R,hW,ht2,hj,hlt,rfl,rfl⟩
  have hl12:W.length=W1.length+W2.length:=by rw [hW,List.length_append]
  have zW12:=zW
  rw [hW,allZ_app] at zW12
  have done:(∀ w∈W1,¬ ltc c y w)→(W1++y::W2).Perm (U.take (k+1+1))∧Srt (ltc c) (W1++y::W2):=by
   intro h1
   refine ⟨?_,srt_mid (by rw [← hW]; exact hs) h1 (fun w hw=>o.asym (hlt w hw))⟩
   rw [show U.take (k+1+1)=U.take (k+1)++[y] from htk]
   refine (List.perm_middle).trans ?_
   rw [← hW]
   exact (List.perm_append_comm (l₁:=[y]) (l₂:=W)).trans (hw.append_right _)
  repeat (refine zF ?_)
  refine yB [14] [0,1,2,3,4,5,6,7,8,9,10,11,12,13,14,15,16] (by kernel_rfl) M (by kernel_rfl) (by kernel_rfl) ?_
  repeat (refine yH M M M M M ?_)
  refine jY M M M M (kB M M) (fun n2=>?_) (fun n2=>?_)
  ·obtain ⟨W0,x,rfl⟩:∃ W0 x,W1=W0++[x]:=⟨W1.dropLast,W1.getLast (by intro h; rw [h] at hj; simp at hj; omega),(List.dropLast_concat_getLast _).symm⟩
   rw [List.length_append,List.length_singleton] at hj hl12
   have e1:A++((W0++[x])++y::(W2++(D++C)))=(A++W0)++x::y::(W2++(D++C)):=by simp only [List.append_assoc,List.cons_append,List.nil_append]
   have zx:Rep.rd w0 X x.1 x.2:=zW12.1 x (by simp)
   have hz2:bP w0 X ((A++W0)++x::y::(W2++(D++C))):=by
    simp only [allZ_app,allZ_cons]
    exact ⟨⟨zA,(allZ_app.1 zW12.1).1⟩,zx,zy,zW12.2,zD,zC⟩
   have hlen:((A++W0)++x::y::(W2++(D++C))).length=n:=by simp only [List.length_append,List.length_cons]; omega
   obtain ⟨g1,g2⟩:=adj_get (A++W0) (W2++(D++C)) x y
   have gs:=adj_set' (A++W0) (W2++(D++C)) x y
   have hlP:(A++W0).length=j - 1:=by rw [List.length_append]; omega
   rw [hlP] at g1 gs
   rw [hlP,show j - 1+1=j by omega] at g2
   rw [show j - 1+1=j by omega] at gs
   have hat1:=z_at hz2 (b:=bl) (spare:=spare) (E:=80) (fz:=(0,0)) g1
   have hat2:=z_at hz2 (b:=bl) (spare:=spare) (E:=80) (fz:=(0,0)) g2
   have hq1:=z_len zx (sz:=Rep.size Rng) (by simp)
   have hq2:=z_len zy (sz:=Rep.size Rng) (by simp)
   rw [e1]
   repeat (first|refine yH M M M M M ?_|refine gY M M M (by omega) M M M ?_)
   refine W_atA M M hat2 hq2 M M M M ?_
   repeat (refine yH M M M M M ?_)
   refine yD M M M M (pv_sub M M (by omega) (by omega)) ?_
   rw [show ((j:Int) - 1)=((j - 1:Nat):Int) by omega]
   repeat (refine gY M M M (by omega) M M M ?_)
   refine W_atA M M hat1 hq1 M M M M ?_
   skip
   refine xU M M M M (zQ M M (by simp<;>rfl)) (hp X y.1 x.1 _ _ zy zx) (xF.all _) ?_
   rintro _ _ ⟨rfl,rfl⟩
   refine ⟨zka,?_⟩
   refine jY M M M M (yS M M) (fun n3=>?_) (fun n3=>?_)
   ·refine zaD ?_
    repeat (first|refine zF ?_|refine zR ?_|refine zP ?_|refine zJ M ?_)
    refine yB [15,17] [0,1,2,3,4,5,6,7,8,9,10,11,12,13,14,15,16,17] (by kernel_rfl) M (by kernel_rfl) (by kernel_rfl) ?_
    repeat (refine yH M M M M M ?_)
    refine yD M M M M (pv_sub M M (by omega) (by omega)) ?_
    rw [show ((j:Int) - 1)=((j - 1:Nat):Int) by omega]
    repeat (refine yH M M M M M ?_)
    refine yD M M M M (pv_sub M M (by omega) (by omega)) ?_
    rw [show ((j:Int) - 1)=((j - 1:Nat):Int) by omega]
    repeat (refine gY M M M (by omega) M M M ?_)
    refine W_atA M M hat1 hq1 M M M M ?_
    repeat (first|refine yH M M M M M ?_|refine gY M M M (by omega) M M M ?_)
    refine W_atA M M hat2 hq2 M M M M ?_
    repeat (refine gY M M M (by omega) M M M ?_)
    refine xS (W':=?wk1) M M M M (ev_storeZ hz2 (by omega) zx M M M) ?wkk1 ?wrest1
    case wkk1=>repeat (first|exact xF.nil|refine xF.drop (by kernel_rfl) ?_|refine xF.keep ?_)
    rintro _ _ rfl
    refine ⟨zka,?_⟩
    repeat (refine gY M M M (by omega) M M M ?_)
    refine xS (W':=?wk2) M M M M (ev_storeZ (hz2.set zx _) (by rw [List.length_set]; omega) zy M M M) ?wkk2 ?wrest2
    case wkk2=>repeat (first|exact xF.nil|refine xF.drop (by kernel_rfl) ?_|refine xF.keep ?_)
    rintro _ _ rfl
    refine ⟨zka,?_⟩
    rw [gs,show (A++W0)++y::x::(W2++(D++C))=A++(W0++y::((x::W2)++(D++C))) by simp only [List.append_assoc,List.cons_append,List.nil_append]]
    repeat (refine yI ?_)
    refine zdG ?_
    rw [show ((j:Int) - 1)=((j - 1:Nat):Int) by omega]
    refine ⟨by omega,_,zsb,j - 1,W0,x::W2,_,by rw [hW]; simp,by rw [List.length_cons,ht2],by omega,?_,rfl,yJ.out⟩
    intro w hw2
    rcases List.mem_cons.1 hw2 with rfl|hw2
    ·exact n3
    ·exact hlt w hw2
   ·refine zaD ?_
    refine zcG ?_
    rw [← e1,show A++((W0++[x])++y::(W2++(D++C)))=A++(((W0++[x])++y::W2)++(D++C)) by simp only [List.append_assoc,List.cons_append,List.nil_append]]
    obtain ⟨d1,d2⟩:=done (all_le_last o (srt_app.1 (by rw [← hW]; exact hs)).1 (fun h=>by simpa using n3))
    exact ⟨by omega,_,zsb,_,_,rfl,d1,d2,by first|(rw [hD]; done)|(rw [hD]; exact yJ.out)⟩
  ·have hW1:W1=[]:=List.eq_nil_of_length_eq_zero (by omega)
   subst hW1
   refine zbY ?_
   refine zcG ?_
   rw [show A++([]++y::(W2++(D++C)))=A++(([]++y::W2)++(D++C)) by simp only [List.append_assoc,List.cons_append,List.nil_append]]
   obtain ⟨d1,d2⟩:=done (by simp)
   exact ⟨by omega,_,zsb,_,_,rfl,d1,d2,by first|(rw [hD]; done)|(rw [hD]; exact yJ.out)⟩
 ·rw [List.take_of_length_le (by omega)] at hw
  rw [List.drop_of_length_le (by omega),List.nil_append]
  refine zdD ?_
  exact ⟨[],_,_,trivial,⟨rfl,W,hw,hs,rfl⟩,yJ.out⟩
end
theorem pv_strIndex {P:Program} {g:Env} {t:TypeId} [hu:Und P t .string] {x ix:Operand} {s:ByteArray} {k:IntKind} {i:Nat} (hx:ev g x=some (.string s)) (hix:ev g ix=some (.int k (i:Int))) (h:i<s.size):PV P g (.index t x ix) (.int .u8 (s[i].toNat:Int)):=by
 intro o a w m ho ha; unfold execOp
 simp only [ho,ha.ev hx,ha.ev hix]
 have hs:s[i]?=some s[i]:=getElem?_pos s i h
 simp [Instr.index,asIntOf,run_underlying hu.out,hs]
theorem bitsLen_spec (w0:World) (n:Nat) (hn:n≤12):yO Tryz.prog w0 342 [.int .u64 (n:Int)] 0 (fun r h'=>(∃ m,r=.int .i64 m)∧0=h'):=by
 refine zN Tryz.func342 M Tryz.ntmps342 Tryz.results342 M fun fr=>?_
 refine zaC ?_
 refine yP M M (kQ M M) (by omega) ?_
 refine zaW ?_
 refine yP M M (kQ M M) (by omega) ?_
 refine zaW ?_
 refine yP M M (kQ M M) (by omega) ?_
 refine zaW ?_
 refine yG M M (kV (m:=(n:Int)) M (IntWalk.u8_in _ (by omega))) ?_
 refine yG M M (pv_strIndex M M (Nat.lt_of_le_of_lt hn (by decide +kernel))) ?_
 generalize hb:(_:UInt8).toNat=q
 have hq:q<256:=by rw [← hb]; exact UInt8.toNat_lt _
 clear hb
 refine yG M M (pv_conv_in M (by omega) (by omega)) ?_
 repeat (first|refine zE ?_|refine zK M M M ?_|refine zM ?_|refine yU M M (by omega) (by omega) M M ?_)
 exact ⟨[_],0,_,⟨rfl,trivial⟩,⟨⟨_,rfl⟩,rfl⟩,yJ.out⟩
theorem bitsLen2_spec (w0:World) (n:Nat) (hn:n≤12):yO Tryz.prog w0 283 [.int .u64 (n:Int)] 0 (fun r h'=>(∃ m,r=.int .i64 m)∧0=h'):=by
 refine zN Tryz.func283 M Tryz.ntmps283 Tryz.results283 M fun fr=>?_
 refine zaW ?_
 refine zX M M (zQ M M M) (bitsLen_spec w0 n hn) ?_
 rintro _ _ ⟨⟨m,rfl⟩,rfl⟩
 refine zaE ?_
 exact ⟨[_],0,_,⟨rfl,trivial⟩,⟨⟨_,rfl⟩,rfl⟩,yJ.out⟩
theorem zeS {G G' : Prop} (h : G') (f : Zh G'→G:=by intro h; (repeat (first|refine zF ?_|refine zR ?_|refine zB ?_|refine zE ?_|refine zK M M M ?_|refine gA M M (by omega) (by omega) M M ?_)); exact h.o) : G:=f ⟨h⟩
section
variable (w0:World) (X:Hp) (bl n cap:Nat) (spare:List Value) (k0:Nat) [hf:Fun Tryz.prog k0] (caps:List Value) (c:Rng→Rng→Int)
 (hp:∀ Y x y e f,Rep.rd w0 Y x e→Rep.rd w0 Y y f→yO Tryz.prog w0 k0 (.agg e.toArray::.agg f.toArray::caps) X (fun r h'=>r=.int .i64 (c x y)∧X=h'))
include hp
theorem pdqRng_spec (o:Ordr (ltc c)) (lim:Int) (U:List (Rng × List Value)) (hz:bP w0 X U) (hn:n=U.length) (hmax:n≤12) :
  yO Tryz.prog w0 293 [.slice (some ⟨bl,0,none⟩) n cap,.int .i64 0,.int .i64 (n:Int),.int .i64 lim,.func (.func k0) #[] caps.toArray] (X+arrRng bl U spare)
   (fun r h'=>∃ W,W.Perm U∧Srt (ltc c) W∧X+arrRng bl W spare=h'):=by
 have hins:=insertionSortRng_spec w0 X bl n cap spare k0 caps c hp o 0 n [] U [] (by simpa using hz) M (by simpa using hn) (by simpa using hn) (by omega)
 simp only [List.nil_append,List.append_nil] at hins
 refine zN Tryz.func293 M Tryz.ntmps293 Tryz.results293 M fun fr=>?_
 refine zaC ?_
 refine zR ?_
 refine hold_loop_of (holdR ?_)
 refine zeS ?_
 refine kD M M (dD M M) (by omega) ?_
 refine zaY ?_
 refine zX M M (zQ M M M) hins ?_
 rintro _ _ ⟨rfl,W,h1,h2,rfl⟩
 refine zbI ?_
 exact ⟨[],_,_,trivial,⟨W,h1,h2,rfl⟩,yJ.out⟩
omit hf hp in
theorem ins0_spec (v vf:Value):yO Tryz.prog w0 345 [v,.int .i64 0,.int .i64 0,vf] 0 (fun r h'=>0=h'):=by
 refine zN Tryz.func345 M Tryz.ntmps345 Tryz.results345 M fun fr=>?_
 refine zcX ?_
 refine zR ?_
 refine hold_loop_of (holdR ?_)
 refine zaV ?_
 refine yP M M (yS M M) (by omega) ?_
 refine zdD ?_
 exact ⟨[],0,_,trivial,rfl,yJ.out⟩
omit hf hp in
theorem pdq0_spec (v vf:Value) (lim:Int):yO Tryz.prog w0 293 [v,.int .i64 0,.int .i64 0,.int .i64 lim,vf] 0 (fun r h'=>0=h'):=by
 refine zN Tryz.func293 M Tryz.ntmps293 Tryz.results293 M fun fr=>?_
 refine zaC ?_
 refine zR ?_
 refine hold_loop_of (holdR ?_)
 refine zeS ?_
 refine kD M M (dD M M) (by omega) ?_
 refine zaY ?_
 refine zX M M (zQ M M M) (ins0_spec w0 v vf) ?_
 rintro _ _ rfl
 refine zbI ?_
 exact ⟨[],0,_,trivial,rfl,yJ.out⟩
omit hf hp in
theorem zip_all2 {w0:World} {X:Hp}:∀ {l:List Rng} {es:List (List Value)},kU (Rep.rd w0 X) l es→bP w0 X (l.zip es)∧uZ (l.zip es)=es∧(l.zip es).map Prod.fst=l
 | [],[],_=>⟨by intro z hz; simp at hz,rfl,rfl⟩
 | x::l,e::es,h=>by
  obtain ⟨a,b,d⟩:=zip_all2 h.2
  refine ⟨?_,?_,?_⟩
  ·intro z hz
   rw [List.zip_cons_cons,List.mem_cons] at hz
   rcases hz with rfl|hz
   ·exact h.1
   ·exact a z hz
  ·simp only [uZ,List.zip_cons_cons,List.map_cons] at b ⊢; rw [b]
  ·simp only [List.zip_cons_cons,List.map_cons,d]
 | [],_::_,h=>h.elim
 | _::_,[],h=>h.elim
omit hf hp in
theorem all2_zip {w0:World} {X:Hp}:∀ {W:List (Rng × List Value)},bP w0 X W→kU (Rep.rd w0 X) (W.map Prod.fst) (uZ W)
 | [],_=>trivial
 | z::W,h=>⟨h z (by simp),all2_zip fun y hy=>h y (by simp [hy])⟩
theorem sortFuncRng_spec (o:Ordr (ltc c)) (l:List Rng) (v:Value) (h:Hp) (hv:OwL w0 X l v h) (hl:l.length≤12) :
  yO Tryz.prog w0 228 [v,.func (.func k0) #[] caps.toArray] (X+h) (fun r h'=>∃ l2 h2,l2.Perm l∧(l2.Pairwise fun a b=>¬ c b a<0)∧OwL w0 X l2 v h2∧X+h2=h'):=by
 obtain ⟨a,cp,rfl⟩:=hv.shape
 obtain ⟨es,h1,h2⟩:=id hv
 have hes:=h2.length
 refine zN Tryz.func228 M Tryz.ntmps228 Tryz.results228 M fun fr=>?_
 refine zbC ?_
 refine yG M M (kV (m:=(l.length:Int)) M (IntWalk.u64_in _ (by omega))) ?_
 refine zX M M (zQ M M M) (bitsLen2_spec w0 l.length hl) ?_
 rintro _ _ ⟨⟨m,rfl⟩,rfl⟩
 repeat (refine zK M M M ?_)
 by_cases hne:es=[]
 ·subst hne
  obtain rfl:l=[]:=List.eq_nil_of_length_eq_zero (by simpa using hes.symm)
  refine zX M M (zQ M M M) (pdq0_spec w0 (.slice a 0 cp) (.func (.func k0) #[] caps.toArray) m) ?_
  rintro _ _ rfl
  repeat (refine zE ?_)
  exact ⟨[],X+h,_,trivial,⟨[],h,List.Perm.refl _,List.Pairwise.nil,hv,rfl⟩,yJ.out⟩
 ·obtain ⟨bl,cap,spare,e1,rfl,hes1,hcap,hmax,hsp⟩:=h1.nonempty hne
  simp only [Value.slice.injEq] at e1
  obtain ⟨rfl,-,rfl⟩:=e1
  obtain ⟨z1,z2,z3⟩:=zip_all2 h2
  have hp2:=pdqRng_spec w0 X bl l.length cp spare k0 caps c hp o m (l.zip es) z1 (by rw [List.length_zip,hes]; simp) hl
  rw [arrRng,z2] at hp2
  refine zX M M (zQ M M M) hp2 ?_
  rintro _ _ ⟨W,hW,hS,rfl⟩
  repeat (refine zE ?_)
  have hWl:W.length=l.length:=by rw [hW.length_eq,List.length_zip,hes]; simp
  have hZ:=z1.perm hW
  refine ⟨[],X+arrRng bl W spare,_,trivial,⟨W.map Prod.fst,arrRng bl W spare,?_,?_,?_,rfl⟩,yJ.out⟩
  ·have:=hW.map Prod.fst; rwa [z3] at this
  ·exact List.pairwise_map.2 hS
  ·have hlen:(uZ W).length=es.length:=by simp [uZ,hWl,hes]
   have:=jH (E:=80) (size:=4) (xs:=uZ W) (b:=bl) (cap:=cp) (spare:=spare) hZ.len (by rw [hlen]; exact hcap) hmax (by rw [hlen]; exact hsp)
   rw [hlen,hes] at this
   exact ⟨uZ W,this,all2_zip hZ⟩
end
set_option maxHeartbeats 4000000
theorem containsFuncBof_spec (w0:World) (X:Hp) (v:Value) (xs:List Bof) (k0:Nat) [hf:Fun Tryz.prog k0] (caps:List Value) (p:Bof→Bool) (hv:RdL w0 X v xs) (hl:xs.length≤1000000000)
  (hp:∀ Y x e,x∈xs→Rep.rd w0 Y x e→yO Tryz.prog w0 k0 (.agg e.toArray::caps) X (fun r h'=>r=.bool (p x)∧X=h')) :
  yO Tryz.prog w0 290 [v,.func (.func k0) #[] caps.toArray] X (fun r h'=>r=.bool (xs.any p)∧X=h'):=by
 have hi:=indexFuncBof_spec w0 X v xs k0 caps p hv hl hp
 obtain ⟨a,c,rfl⟩:=hv.shape
 refine zN Tryz.func290 M Tryz.ntmps290 Tryz.results290 M fun fr=>?_
 refine zaC ?_
 refine zX M M (zQ M M M) hi ?_
 rintro _ _ ⟨rfl,rfl⟩
 refine yG M M (kQ M M) ?_
 refine zaE ?_
 exact ⟨[_],X,_,⟨rfl,trivial⟩,⟨by rw [gI]; rfl,rfl⟩,yJ.out⟩
abbrev bA (r:Rng):List Value:=[.int .i64 r.lo,.int .i64 r.hi,.int .i64 r.group,.int .i64 r.epoch]
theorem zeT {G G' : Prop} (h : G') (f : Zh G'→G:=by intro h; (repeat (first|refine zF ?_|refine zB ?_|refine zE ?_|refine zK M M M ?_|refine zY M M M M M ?_|refine gO M (by assumption) M M M M ?_)); exact h.o) : G:=f ⟨h⟩
section
variable (w0:World) (X:Hp)
theorem of1t_spec (r:Rng) (n:Int) (bx:Nat) (h:At w0 X bx 0 (bA r)):yO Tryz.prog w0 289 [.int .i64 n,pB bx] X (fun v h'=>v=.bool (bH r n)∧X=h'):=by
 refine zN Tryz.func289 M Tryz.ntmps289 Tryz.results289 M fun fr=>?_
 refine zeT ?_
 refine yF M M (kQ M M) (fun n1=>?_) (fun n1=>?_)
 ·repeat (first|refine zK M M M ?_|refine zY M M M M M ?_|refine gO M (by assumption) M M M M ?_)
  refine yG M M (yS M M) ?_
  refine zaE ?_
  exact ⟨[_],X,_,⟨rfl,trivial⟩,⟨congrArg Value.bool (decide_eq_decide.2 ⟨fun h=>⟨by omega,h⟩,fun h=>h.2⟩),rfl⟩,yJ.out⟩
 ·refine zbJ ?_
  exact ⟨[_],X,_,⟨rfl,trivial⟩,⟨congrArg Value.bool (decide_eq_false (fun h=>n1 (by omega))).symm,rfl⟩,yJ.out⟩
theorem prepared1_spec (r:Rng) (n:Int) (bx:Nat) (h:At w0 X bx 0 (bA r)):yO Tryz.prog w0 295 [.int .i64 n,pB bx] X (fun v h'=>v=.bool (bH r n)∧X=h'):=by
 refine zN Tryz.func295 M Tryz.ntmps295 Tryz.results295 M fun fr=>?_
 refine zeT ?_
 refine yF M M (kQ M M) (fun n1=>?_) (fun n1=>?_)
 ·repeat (first|refine zK M M M ?_|refine zY M M M M M ?_|refine gO M (by assumption) M M M M ?_)
  refine yG M M (yS M M) ?_
  refine zaE ?_
  exact ⟨[_],X,_,⟨rfl,trivial⟩,⟨congrArg Value.bool (decide_eq_decide.2 ⟨fun h=>⟨by omega,h⟩,fun h=>h.2⟩),rfl⟩,yJ.out⟩
 ·refine zbJ ?_
  exact ⟨[_],X,_,⟨rfl,trivial⟩,⟨congrArg Value.bool (decide_eq_false (fun h=>n1 (by omega))).symm,rfl⟩,yJ.out⟩
theorem of2t_spec (r:Rng) (x:Bof) (a:Option Addr) (cp bx bf:Nat) (h:At w0 X bx 0 (bA r)) (hf:At w0 X bf 0 [.func (.func 289) #[] [pB bx].toArray]):yO Tryz.prog w0 291 [.agg [.int .i64 x.block,.slice a x.data.length cp].toArray,pB bf] X (fun v h'=>v=.bool (bH r x.block)∧X=h'):=by
 refine zN Tryz.func291 M Tryz.ntmps291 Tryz.results291 M fun fr=>?_
 repeat (first|refine zF ?_|refine zB ?_|refine zE ?_|refine zK M M M ?_|refine zY M M M M M ?_|refine yM M M M M M ?_|refine wA M (by assumption) M M M M ?_|refine xN M (c:=[_,_]) M M M (fun _=>?_))
 refine zX M M (zQ M M (by simp<;>rfl)) (of1t_spec w0 X r x.block bx h) ?_
 rintro _ _ ⟨rfl,rfl⟩
 refine zaE ?_
 exact ⟨[_],X,_,⟨rfl,trivial⟩,⟨rfl,rfl⟩,yJ.out⟩
theorem of3t_spec (r:Rng) (x:Wr) (a:Option Addr) (cp bx bf:Nat) (h:At w0 X bx 0 (bA r)) (hf:At w0 X bf 0 [.func (.func 289) #[] [pB bx].toArray]):yO Tryz.prog w0 292 [.agg [.int .i64 x.block,.slice a x.data.length cp].toArray,pB bf] X (fun v h'=>v=.bool (bH r x.block)∧X=h'):=by
 refine zN Tryz.func292 M Tryz.ntmps292 Tryz.results292 M fun fr=>?_
 repeat (first|refine zF ?_|refine zB ?_|refine zE ?_|refine zK M M M ?_|refine zY M M M M M ?_|refine yM M M M M M ?_|refine wA M (by assumption) M M M M ?_|refine xN M (c:=[_,_]) M M M (fun _=>?_))
 refine zX M M (zQ M M (by simp<;>rfl)) (of1t_spec w0 X r x.block bx h) ?_
 rintro _ _ ⟨rfl,rfl⟩
 refine zaE ?_
 exact ⟨[_],X,_,⟨rfl,trivial⟩,⟨rfl,rfl⟩,yJ.out⟩
theorem offTxn_spec (tb:Nat) (t:Txn) (h:Hp) (H:uL w0 X tb t h) (r:Rng) (hl:t.reads.length≤1000000000∧t.writes.length≤1000000000) :
  yO Tryz.prog w0 227 [pB tb,.agg (bA r).toArray] (X+h) (fun v h'=>v=.bool (ofF t r)∧X+h=h'):=by
 obtain ⟨vr,va,vw,ap,cp,hr,ha,hw,rfl,k1,k2,k3,k4⟩:=H
 obtain ⟨ar,cr,rfl⟩:=k1.shape
 obtain ⟨aw,cw,rfl⟩:=k3.shape
 unfold ofF
 refine zN Tryz.func227 M Tryz.ntmps227 Tryz.results227 M fun fr=>?_
 repeat (first|refine zF ?_|refine zB ?_|refine zE ?_|refine zK M M M ?_|refine xD M M M (c':=[_]) M M M M ?_|refine xN M (c:=[_,_,_,_]) M M M (fun _=>?_)|refine xK (c:=[_]) M M M (fun _=>?_)|refine uI M M M ?_)
 rename_i b3 b5
 have hat3:At w0 (X+hr+hw+(pt b3 (.cells (bA r).toArray 80 (0,0))+pt b5 (.cells [.func (.func 289) #[] [pB b3].toArray].toArray 76 (0,0)))) b3 0 (bA r):=jI
 have hat5:At w0 (X+hr+hw+(pt b3 (.cells (bA r).toArray 80 (0,0))+pt b5 (.cells [.func (.func 289) #[] [pB b3].toArray].toArray 76 (0,0)))) b5 0 [.func (.func 289) #[] [pB b3].toArray]:=jI
 have hr1:=containsFuncBof_spec w0 (X+hr+hw+(pt b3 (.cells (bA r).toArray 80 (0,0))+pt b5 (.cells [.func (.func 289) #[] [pB b3].toArray].toArray 76 (0,0)))) (.slice ar t.reads.length cr) t.reads 291 [pB b5] (fun x=>bH r x.block) k1.rd hl.1 (fun Y x e hx he=>by
  obtain ⟨a,c,rfl,_⟩:=he
  exact of2t_spec w0 _ r x a c b3 b5 hat3 hat5)
 have hr2:=containsFuncWr_spec w0 (X+hr+hw+(pt b3 (.cells (bA r).toArray 80 (0,0))+pt b5 (.cells [.func (.func 289) #[] [pB b3].toArray].toArray 76 (0,0)))) (.slice aw t.writes.length cw) t.writes 292 [pB b5] (fun x=>bH r x.block) k3.rd hl.2 (fun Y x e hx he=>by
  obtain ⟨a,c,rfl,_⟩:=he
  exact of3t_spec w0 _ r x a c b3 b5 hat3 hat5)
 refine yB [5,12] [0,1,2,3,4,5,6,7,8,9,10,11,12,13,14,15,16,17,18,19,20,21,22,23,24,25,26,27,28,29,30,31,32,33] (by kernel_rfl) M (by kernel_rfl) (by kernel_rfl) ?_
 refine zaF ?_
 refine yD M M M M (pv_closure (cap:=[_]) M) ?_
 skip
 refine xU M M M M (zQ M M M) hr1 (xF.all _) ?_
 rintro _ _ ⟨rfl,rfl⟩
 refine ⟨zka,?_⟩
 cases t.reads.any fun x=>bH r x.block
 ·refine zaF ?_
  refine yD M M M M (pv_closure (cap:=[_]) M) ?_
  skip
  refine xU M M M M (zQ M M M) hr2 (xF.all _) ?_
  rintro _ _ ⟨rfl,rfl⟩
  refine ⟨zka,?_⟩
  cases t.writes.any fun w=>bH r w.block
  ·refine zaF ?_
   refine yD M M M M (pv_max M M) ?_
   refine zaF ?_
   refine yD M M M M (pv_min M M) ?_
   skip
   refine yD M M M M (yS M M) ?_
   refine zaD ?_
   repeat (refine zM ?_)
   exact ⟨[_],_,_,⟨rfl,trivial⟩,⟨congrArg Value.bool (decide_eq_decide.2 (by split<;>split<;>omega)),rfl⟩,yJ.out⟩
  ·refine zaR ?_
   repeat (refine zM ?_)
   exact ⟨[_],_,_,⟨rfl,trivial⟩,⟨rfl,rfl⟩,yJ.out⟩
 ·refine zbY ?_
  repeat (refine zM ?_)
  exact ⟨[_],_,_,⟨rfl,trivial⟩,⟨rfl,rfl⟩,yJ.out⟩
theorem prepare1_spec (x y:Rng) (e f:List Value) (Y Z:Hp) (he:Rep.rd w0 Y x e) (hf:Rep.rd w0 Z y f):yO Tryz.prog w0 229 [.agg e.toArray,.agg f.toArray] X (fun r h'=>r=.int .i64 (cmpI x.group y.group)∧X=h'):=by
 obtain rfl:=he
 obtain rfl:=hf
 refine zN Tryz.func229 M Tryz.ntmps229 Tryz.results229 M fun fr=>?_
 repeat (first|refine zF ?_|refine zB ?_|refine zE ?_|refine zK M M M ?_|refine zY M M M M M ?_|refine yM M M M M M ?_|refine xN M (c:=[_,_,_,_]) M M M (fun _=>?_))
 refine zX M M (zQ M M M) (compare_spec w0 x.group y.group) ?_
 rintro _ _ ⟨rfl,rfl⟩
 refine zaE ?_
 exact ⟨[_],X,_,⟨rfl,trivial⟩,⟨rfl,rfl⟩,yJ.out⟩
end
def dC (t:Txn) (r:Rng) (k:Nat):List Int:=((t.reads.take k).filter fun x=>bH r x.block).map (·.block)
theorem readsF_succ (t:Txn) (r:Rng) {k:Nat} (hx:k<t.reads.length):dC t r (k+1)=dC t r k++(if bH r t.reads[k].block=true then [t.reads[k].block] else []):=by
 unfold dC
 rw [List.take_succ_eq_append_getElem hx,List.filter_append,List.map_append]
 congr 1
 by_cases h:bH r t.reads[k].block=true<;>simp [h]
theorem readsF_le (t:Txn) (r:Rng) (k:Nat):(dC t r k).length≤t.reads.length:=by
 unfold dC
 rw [List.length_map]
 refine Nat.le_trans (List.length_filter_le _ _) ?_
 rw [List.length_take]; omega
def writesF (t:Txn) (r:Rng) (k:Nat):List Wr:=(t.writes.take k).filter fun x=>bH r x.block
theorem writesF_succ (t:Txn) (r:Rng) {k:Nat} (hx:k<t.writes.length):writesF t r (k+1)=writesF t r k++(if bH r t.writes[k].block=true then [t.writes[k]] else []):=by
 unfold writesF
 rw [List.take_succ_eq_append_getElem hx,List.filter_append]
 congr 1
 by_cases h:bH r t.writes[k].block=true<;>simp [h]
theorem writesF_le (t:Txn) (r:Rng) (k:Nat):(writesF t r k).length≤t.writes.length:=by
 unfold writesF
 refine Nat.le_trans (List.length_filter_le _ _) ?_
 rw [List.length_take]; omega
theorem OwL.at {α:Type} [ρ:Rep α] {w0:World} {X h:Hp} {ad:Option Addr} {n c:Nat} {xs:List α} (H:OwL w0 X xs (.slice ad n c) h) {i:Nat} (hi:i<xs.length):∃ b o,ad=some ⟨b,o,none⟩∧∃ e,ρ.rd w0 X xs[i] e∧At w0 h b (o+i*ρ.size) e:=by
 obtain ⟨es,h1,h2⟩:=H
 have h1':uA w0 h ρ.size (.slice ad n c) es:=h1.rd (L:=h) (R:=0)
 obtain ⟨_,h3⟩:=h1'.at
 obtain ⟨e,he,hr⟩:=h2.get hi
 obtain ⟨b,o,rfl,hat⟩:=h3.2 i e he
 exact ⟨b,o,rfl,e,hr,hat⟩
theorem zeU {G G' : Prop} (h : G') (f : Zh G'→G:=by intro h; (repeat (first|refine zB ?_|refine zE ?_|refine zK M M M ?_|refine zY M M M M M ?_|refine yU M M (by omega) (by omega) M M ?_|refine xD M M M (c':=[_,_,_,_,_,_,_,_,_,_,_,_,_,_,_,_,_]) M M M M ?_)); exact h.o) : G:=f ⟨h⟩
section
variable (w0:World) (X:Hp)
theorem prepare_spec (b tb:Nat) (t:Txn) (h:Hp) (H:uL w0 X tb t h) (r:Rng) (hl:t.reads.length≤1000000000∧t.writes.length≤1000000000) :
  yO Tryz.prog w0 231 [pB b,pB tb,.agg (bA r).toArray] (X+h) (fun v h'=>∃ E e,v=.agg e.toArray∧Rep.rd w0 (X+E) (kG t r) e∧X+E+h=h'):=by
 obtain ⟨vr,va,vw,ap,cp,hr,ha,hw,rfl,k1,k2,k3,k4⟩:=H
 obtain ⟨ar,cr,rfl⟩:=k1.shape
 obtain ⟨aw,cw,rfl⟩:=k3.shape
 have hrd:RdL w0 (X+hr) (.slice ar t.reads.length cr) t.reads:=k1.rd0
 have hwd:RdL w0 (X+hw) (.slice aw t.writes.length cw) t.writes:=k3.rd0
 refine zN Tryz.func231 M Tryz.ntmps231 Tryz.results231 M fun fr=>?_
 repeat (first|refine zF ?_|refine zB ?_|refine zE ?_|refine xN M (c:=[_,_,_,_]) M M M (fun _=>?_)|refine xK (c:=[_,_,_,_,_,_,_,_,_,_,_,_,_,_,_,_,_]) M M M (fun _=>?_))
 rename_i b5 b6
 refine yB [15,16] [0,1,2,3,4,5,6,7,8,9,10,11,12,13,14,15,16] (by kernel_rfl) M (by kernel_rfl) (by kernel_rfl) ?_
 refine zeQ ?_
 refine xS M M M M ev_alloc (xF.all _) ?_
 rintro _ _ ⟨b7,rfl,hL⟩
 have hL':_=pt b7 (.cells (.int .i64 0::.int .i64 0::.int .i64 0::.int .i64 0::.int .i64 0::.int .i64 0::.int .i64 0::.int .i64 0::.int .i64 0::.int .i64 0::.int .i64 0::.int .i64 0::.int .i64 0::.slice none 0 0::.slice none 0 0::.slice none 0 0::.slice none 0 0::[]).toArray 63 (0,0))+_:=hL
 subst hL'
 clear hL
 refine ⟨zka,?_⟩
 skip
 refine xS M M M M (wH (vs:=[_,_,_,_,_,_,_,_,_,_,_,_,_,_,_,_,_]) M M M M (c:=[_,_,_,_,_,_,_,_,_,_,_,_,_,_,_,_,_]) (Nat.le_of_ble_eq_true M) (c':=[_,_,_,_,_,_,_,_,_,_,_,_,_,_,_,_,_]) M) (xF.all _) ?_
 rintro _ _ rfl
 refine ⟨zka,?_⟩
 repeat (refine yI ?_)
 repeat (first|refine zF ?_|refine zR ?_|refine zB ?_|refine zE ?_|refine zK M M M ?_|refine zY M M M M M ?_|refine yM M M M M M ?_|refine yT M M M ?_|refine uI M M M ?_)
 refine yN t.reads.length (fun k g L=>∃ (af:Option Addr) (cf:Nat) (ho R:Hp),g=[(1,pB tb),(6,pB b6),(7,pB b7),(8,.func (.func 295) #[] [pB b5].toArray),(32,.slice ar t.reads.length cr),(33,.int .i64 t.reads.length),(34,.int .i64 k)] ∧
  OwL w0 0 (dC t r k) (.slice af (dC t r k).length cf) ho ∧
  L=pt b7 (.cells (.int .i64 2::.int .i64 0::.int .i64 0::.int .i64 t.id::.int .i64 t.age::.int .i64 r.epoch::.int .i64 0::.int .i64 0::.int .i64 0::.int .i64 0::.int .i64 0::.int .i64 0::.int .i64 0::.slice ap t.parts.length cp::.slice af (dC t r k).length cf::.slice none 0 0::.slice none 0 0::[]).toArray 63 (0,0))+(pt b6 (.cells (.int .i64 0::.int .i64 0::.int .i64 0::.int .i64 0::.int .i64 0::.int .i64 0::.int .i64 0::.int .i64 0::.int .i64 0::.int .i64 0::.int .i64 0::.int .i64 0::.int .i64 0::.slice none 0 0::.slice none 0 0::.slice none 0 0::.slice none 0 0::[]).toArray 63 (0,0))+(pt b5 (.cells (bA r).toArray 80 (0,0))+(X+(txnC tb (.int .i64 t.id::.int .i64 t.age::.slice ar t.reads.length cr::va::.slice aw t.writes.length cw::.slice ap t.parts.length cp::.int .i64 t.slo::.int .i64 t.shi::[])+(hr+(ha+hw)))+fr)))+ho+R) _
  ⟨none,0,0,0,rfl,OwL.nil _ _,by rw [show (dC t r 0).length=0 from rfl,yA,yA]⟩ zsb ?_
 rintro k g L hk ⟨af,cf,ho,R,rfl,hof,rfl⟩
 refine zaH ?_
 refine yF M M (yS M M) (fun n1=>?_) (fun n1=>?_)
 ·have hx:k<t.reads.length:=by omega
  obtain ⟨bq,oq,rfl,e,hre,hat⟩:=hrd.at hx
  obtain ⟨a1,c1,rfl,he⟩:=id hre
  have hfk:=readsF_le t r k
  repeat (first|refine zF ?_|refine zR ?_|refine zB ?_|refine zE ?_|refine zK M M M ?_|refine zY M M M M M ?_|refine yM M M M M M ?_|refine zP ?_|refine zJ M ?_|refine kC M M (by omega) M M ?_|refine vU M (by assumption) M M M M ?_|refine yY M (vs:=[_,_]) M M M M (c':=[_,_]) M M ?_|refine xK (c:=[_,_]) M M M (fun _=>?_))
  refine zX M M (zQ M M (by simp<;>rfl)) (prepared1_spec w0 (pt b5 (.cells (bA r).toArray 80 (0,0))) r t.reads[k].block b5 jI) ?_
  rintro _ _ ⟨rfl,rfl⟩
  have hs:=readsF_succ t r hx
  cases hmi:bH r t.reads[k].block
  ·rw [hmi,if_neg (by simp),List.append_nil] at hs
   refine zaJ ?_
   exact ⟨hx,_,zsb,af,cf,ho,_,rfl,by rw [hs]; exact hof,by rw [hs]; exact yJ.out⟩
  ·rw [hmi,if_pos M] at hs
   repeat (first|refine zB ?_|refine zE ?_|refine zY M M M M M ?_|refine yM M M M M M ?_|refine zJ M ?_|refine vM (vs:=[_]) (cells:=[_]) M M M M M M (fun _=>?_))
   refine kF M M (xR (X:=0) (h:=ho) (ns:=[t.reads[k].block]) M M hof (wQ M) (kU.one M) M M M M M (by rw [List.length_singleton]; omega)) ?_
   rintro v5 _ ⟨h5,ho5,rfl⟩
   rw [← hs] at ho5
   obtain ⟨a5,c5,rfl⟩:=ho5.shape
   refine zeU ?_
   exact ⟨hx,_,zsb,a5,c5,h5,_,rfl,ho5,yJ.out⟩
 ·obtain rfl:k=t.reads.length:=by omega
  refine zdK ?_
  have hrl:=readsF_le t r t.reads.length
  refine zX M M (zQ M M M) (sort_spec w0 _ _ ho (gF.1 hof) (by omega)) ?_
  rintro _ k2 o2
  refine zcJ ?_
  refine yN t.writes.length (fun k g L=>∃ (a2:Option Addr) (c2:Nat) (h2 R:Hp),g=[(1,pB tb),(6,pB b6),(7,pB b7),(8,.func (.func 295) #[] [pB b5].toArray),(56,.slice aw t.writes.length cw),(57,.int .i64 t.writes.length),(58,.int .i64 k)] ∧
   OwL w0 X (writesF t r k) (.slice a2 (writesF t r k).length c2) h2 ∧
   L=pt b7 (.cells (.int .i64 2::.int .i64 0::.int .i64 0::.int .i64 t.id::.int .i64 t.age::.int .i64 r.epoch::.int .i64 0::.int .i64 0::.int .i64 0::.int .i64 0::.int .i64 0::.int .i64 0::.int .i64 0::.slice ap t.parts.length cp::.slice af (dC t r t.reads.length).length cf::.slice a2 (writesF t r k).length c2::.slice none 0 0::[]).toArray 63 (0,0))+(pt b6 (.cells (.int .i64 0::.int .i64 0::.int .i64 0::.int .i64 0::.int .i64 0::.int .i64 0::.int .i64 0::.int .i64 0::.int .i64 0::.int .i64 0::.int .i64 0::.int .i64 0::.int .i64 0::.slice none 0 0::.slice none 0 0::.slice none 0 0::.slice none 0 0::[]).toArray 63 (0,0))+(pt b5 (.cells (bA r).toArray 80 (0,0))+(X+(txnC tb (.int .i64 t.id::.int .i64 t.age::.slice ar t.reads.length cr::va::.slice aw t.writes.length cw::.slice ap t.parts.length cp::.int .i64 t.slo::.int .i64 t.shi::[])+(hr+(ha+hw)))+fr)))+k2+h2+R) _
   ⟨none,0,0,_,rfl,OwL.nil _ _,by rw [show (writesF t r 0).length=0 from rfl,show ∀ a b:Hp,a+0+b=a+b from fun a b=>by rw [yA]]; exact yJ.out⟩ zsb ?_
  rintro k g L hk ⟨a2,c2,h2,R,rfl,hof2,rfl⟩
  refine zaH ?_
  refine yF M M (yS M M) (fun n1=>?_) (fun n1=>?_)
  ·have hx:k<t.writes.length:=by omega
   obtain ⟨bq,oq,rfl,e,hre,hat⟩:=k3.at hx
   obtain ⟨a1,c1,rfl,he⟩:=id hre
   have hfk:=writesF_le t r k
   repeat (first|refine zF ?_|refine zR ?_|refine zB ?_|refine zE ?_|refine zK M M M ?_|refine zY M M M M M ?_|refine yM M M M M M ?_|refine zP ?_|refine zJ M ?_|refine kC M M (by omega) M M ?_|refine vU M (by assumption) M M M M ?_|refine yY M (vs:=[_,_]) M M M M (c':=[_,_]) M M ?_|refine xK (c:=[_,_]) M M M (fun _=>?_))
   refine zX M M (zQ M M (by simp<;>rfl)) (prepared1_spec w0 (pt b5 (.cells (bA r).toArray 80 (0,0))) r t.writes[k].block b5 jI) ?_
   rintro _ _ ⟨rfl,rfl⟩
   have hs:=writesF_succ t r hx
   cases hmi:bH r t.writes[k].block
   ·rw [hmi,if_neg (by simp),List.append_nil] at hs
    refine zaJ ?_
    exact ⟨hx,_,zsb,a2,c2,h2,_,rfl,by rw [hs]; exact hof2,by rw [hs]; exact yJ.out⟩
   ·rw [hmi,if_pos M] at hs
    repeat (first|refine zB ?_|refine zE ?_|refine zY M M M M M ?_|refine yM M M M M M ?_|refine zJ M ?_|refine xJ M (vs:=[_,_]) M M M M M ?_|refine vM (vs:=[_]) (cells:=[_,_]) M M M M M M (fun _=>?_))
    refine kF M M (xR (X:=X) (h:=h2) (ns:=[t.writes[k]]) M M hof2 (wQ M) (kU.one hre) M M M M M (by rw [List.length_singleton]; omega)) ?_
    rintro v5 _ ⟨h5,ho5,rfl⟩
    rw [← hs] at ho5
    obtain ⟨a5,c5,rfl⟩:=ho5.shape
    refine zeU ?_
    exact ⟨hx,_,zsb,a5,c5,h5,_,rfl,ho5,yJ.out⟩
  ·obtain rfl:k=t.writes.length:=by omega
   have ho4:OwL w0 0 (kG t r).reads (.slice af (dC t r t.reads.length).length cf) k2:=by
    have:(kG t r).reads=sortI (dC t r t.reads.length):=by simp only [kG,dC,List.take_length]
    rw [this]; exact gF.2 o2
   have hw4:(kG t r).writes=writesF t r t.writes.length:=by simp only [kG,writesF,List.take_length]
   have hrl2:(kG t r).reads.length=(dC t r t.reads.length).length:=by
    have:(kG t r).reads=sortI (dC t r t.reads.length):=by simp only [kG,dC,List.take_length]
    rw [this,uS]
   rw [← hw4] at hof2 ⊢
   rw [← hrl2] at ho4 ⊢
   generalize hrs:(kG t r).reads=rs at *
   generalize hws:(kG t r).writes=ws at *
   refine zbU ?_
   refine yB [] [0,1,2,3,4,5,6,7,8,9,10] (by kernel_rfl) M (by kernel_rfl) (by kernel_rfl) ?_
   refine zaF ?_
   refine jY M M M M (yS M M) (fun n2=>?_) (fun n2=>?_)
   ·repeat (refine yI ?_)
    repeat (refine zJ M ?_)
    refine yB [15,17,19] [0,1,2,3,4,5,6,7,8,9,10,11,12,13,14,15,16,17,18,19] (by kernel_rfl) M (by kernel_rfl) (by kernel_rfl) ?_
    refine zaF ?_
    refine xS M M M M (kA M M M M M (c':=[_,_,_,_,_,_,_,_,_,_,_,_,_,_,_,_,_]) M) (xF.all _) ?_
    rintro _ _ rfl
    refine ⟨zka,?_⟩
    repeat (refine yD M M M M (zZ M M M) ?_)
    refine xS M M M M (kA M M M M M (c':=[_,_,_,_,_,_,_,_,_,_,_,_,_,_,_,_,_]) M) (xF.all _) ?_
    rintro _ _ rfl
    refine ⟨zka,?_⟩
    repeat (refine yD M M M M (zZ M M M) ?_)
    refine xS M M M M (kA M M M M M (c':=[_,_,_,_,_,_,_,_,_,_,_,_,_,_,_,_,_]) M) (xF.all _) ?_
    rintro _ _ rfl
    refine ⟨zka,?_⟩
    repeat (refine yI ?_)
    repeat (first|refine zF ?_|refine zB ?_|refine zE ?_|refine zM ?_|refine xJ M (vs:=[_,_,_,_,_,_,_,_,_,_,_,_,_,_,_,_,_]) M M M M M ?_|refine yY M (vs:=[_,_,_,_,_,_,_,_,_,_,_,_,_,_,_,_,_]) M M M M (c':=[_,_,_,_,_,_,_,_,_,_,_,_,_,_,_,_,_]) M M ?_)
    have hpf:kG t r=⟨2,0,0,t.id,t.age,r.epoch,t.slo,t.shi,0,t.id,0,0,0,t.parts,rs,ws,[]⟩:=by rw [← hrs,← hws]; simp only [kG,if_pos n2]
    have hrdp:Rep.rd w0 (X+(k2+h2)) (kG t r) [.int .i64 2,.int .i64 0,.int .i64 0,.int .i64 t.id,.int .i64 t.age,.int .i64 r.epoch,.int .i64 t.slo,.int .i64 t.shi,.int .i64 0,.int .i64 t.id,.int .i64 0,.int .i64 0,.int .i64 0,.slice ap t.parts.length cp,.slice af rs.length cf,.slice a2 ws.length c2,.slice none 0 0]:=by
     rw [hpf]
     exact ⟨ap,cp,af,cf,a2,c2,none,0,rfl,k4.mono M,ho4.rd (X:=0) (R:=X+h2),hof2.rd (X:=X) (R:=k2),RdL.nil _ _ _⟩
    exact ⟨[_],_,_,⟨⟨_,rfl,zL (vs:=[_,_,_,_,_,_,_,_,_,_,_,_,_,_,_,_,_]) M M M⟩,trivial⟩,⟨k2+h2,_,rfl,hrdp,rfl⟩,yJ.out⟩
   ·repeat (refine yI ?_)
    repeat (first|refine zF ?_|refine zB ?_|refine zE ?_|refine zP ?_|refine zM ?_|refine zI M ?_|refine xJ M (vs:=[_,_,_,_,_,_,_,_,_,_,_,_,_,_,_,_,_]) M M M M M ?_|refine yY M (vs:=[_,_,_,_,_,_,_,_,_,_,_,_,_,_,_,_,_]) M M M M (c':=[_,_,_,_,_,_,_,_,_,_,_,_,_,_,_,_,_]) M M ?_)
    have hpf:kG t r=⟨2,0,0,t.id,t.age,r.epoch,0,0,0,0,0,0,0,t.parts,rs,ws,[]⟩:=by rw [← hrs,← hws]; simp only [kG,if_neg n2]
    have hrdp:Rep.rd w0 (X+(k2+h2)) (kG t r) [.int .i64 2,.int .i64 0,.int .i64 0,.int .i64 t.id,.int .i64 t.age,.int .i64 r.epoch,.int .i64 0,.int .i64 0,.int .i64 0,.int .i64 0,.int .i64 0,.int .i64 0,.int .i64 0,.slice ap t.parts.length cp,.slice af rs.length cf,.slice a2 ws.length c2,.slice none 0 0]:=by
     rw [hpf]
     exact ⟨ap,cp,af,cf,a2,c2,none,0,rfl,k4.mono M,ho4.rd (X:=0) (R:=X+h2),hof2.rd (X:=X) (R:=k2),RdL.nil _ _ _⟩
    exact ⟨[_],_,_,⟨⟨_,rfl,zL (vs:=[_,_,_,_,_,_,_,_,_,_,_,_,_,_,_,_,_]) M M M⟩,trivial⟩,⟨k2+h2,_,rfl,hrdp,rfl⟩,yJ.out⟩
end
theorem coValue_spec (w0:World) (b:Nat) (k:Coo) (S:Hp) (H:uW w0 b k S) (hl:k.parts.length≤1000000000) :
  yO Tryz.prog w0 57 [.pointer (some ⟨b,0,none⟩)] S (fun r h'=>r=.int .i64 (valueC k)∧S=h'):=by
 obtain ⟨vp,pm,pp,ab,cb,h1,h2,h3,h4,h5,hp,ha,hc,hm,hq,rfl⟩:=H.out
 clear H
 obtain ⟨ap,cp,rfl⟩:=hp.shape
 generalize hC:cooC b k.me k.txn (.slice ap k.parts.length cp) k.acc (.map (some ab)) (.map (some cb)) (.bool k.started) k.number pm pp k.top=C at *
 obtain ⟨me,txn,parts,acc,l1,chosen,st,num,l2,l3,top⟩:=k
 simp only at *
 subst hC
 refine zN Tryz.func57 M Tryz.ntmps57 Tryz.results57 M fun fr=>?_
 refine zcJ ?_
 refine yN parts.length (fun i g L=>∃ v:Int,g=[(0,.pointer (some ⟨b,0,none⟩)),(3,.int .i64 v),(9,.slice ap parts.length cp),(10,.int .i64 parts.length),(11,.int .i64 i)]∧valL chosen parts 1=valL chosen (parts.drop i) v ∧
  L=cooC b me txn (.slice ap parts.length cp) acc (.map (some ab)) (.map (some cb)) (.bool st) num pm pp top+(h1+(h2+(h3+(h4+h5))))+fr) _
  ⟨1,rfl,rfl,rfl⟩ zsb ?_
 rintro i g L hi ⟨v,rfl,hv,rfl⟩
 refine zaH ?_
 refine yF M M (yS M M) (fun n1=>?_) (fun n1=>?_)
 ·have hx:i<parts.length:=by omega
  obtain ⟨bq,oq,rfl,e,rfl,hat⟩:=OwL.at hp hx
  rw [List.drop_eq_getElem_cons hx] at hv
  simp only [valL] at hv
  generalize parts[i]=p at hv hat
  refine zdP ?_
  refine kF M M (bK (k:=p) M M hc) ?_
  rintro _ _ ⟨rfl,rfl⟩
  rw [mapI_vI]
  repeat (first|refine zF ?_|refine zR ?_|refine zB ?_|refine zE ?_)
  refine yF M M (yK M M) (fun n2=>?_) (fun n2=>?_)
  ·refine zaB ?_
   exact ⟨[_],_,_,⟨rfl,trivial⟩,⟨by show _=Value.int .i64 (valL chosen parts 1); rw [hv,if_pos n2]; rfl,rfl⟩,yJ.out⟩
  ·refine zaA ?_
   rw [if_neg n2] at hv
   refine yF M M (yK M M) (fun n3=>?_) (fun n3=>?_)
   ·repeat (first|refine zB ?_|refine zE ?_|refine zK M M M ?_|refine zJ M ?_|refine yU M M (by omega) (by omega) M M ?_)
    exact ⟨hx,_,zsb,0,rfl,by rw [hv,if_pos n3],rfl⟩
   ·refine zaJ ?_
    exact ⟨hx,_,zsb,v,rfl,by rw [hv,if_neg n3],rfl⟩
 ·obtain rfl:i=parts.length:=by omega
  rw [List.drop_length] at hv
  simp only [valL] at hv
  refine zaK ?_
  exact ⟨[_],_,_,⟨rfl,trivial⟩,⟨by show _=Value.int .i64 (valL chosen parts 1); rw [hv]; rfl,rfl⟩,yJ.out⟩
def startG (me txn n:Int) (chosen:List (Int × Int)) (na:Nat) (l:List Int):List Msg:=(l.filter (fun p=>dW chosen p=0)).flatMap fun p=>allF me txn n (msg0 8 p 0) na
theorem startG_len (me txn n:Int) (chosen:List (Int × Int)) (na:Nat) (h:na≤7) (l:List Int):(startG me txn n chosen na l).length≤7*l.length:=by
 unfold startG
 induction l with
 | nil=>simp
 | cons p l ih =>
  simp only [List.filter_cons]
  split
  ·rw [List.flatMap_cons,List.length_append]
   have:(allF me txn n (msg0 8 p 0) na).length≤7:=by simp [allF]; omega
   simp only [List.length_cons]; omega
  ·simp only [List.length_cons]; omega
theorem startG_yes (me txn n:Int) (chosen:List (Int × Int)) (na:Nat) (l:List Int) (p:Int) (h:dW chosen p=0):startG me txn n chosen na (l++[p])=startG me txn n chosen na l++allF me txn n (msg0 8 p 0) na:=by
 unfold startG; rw [List.filter_append,List.flatMap_append]; simp [List.filter_cons,h]
theorem startG_no (me txn n:Int) (chosen:List (Int × Int)) (na:Nat) (l:List Int) (p:Int) (h:¬ dW chosen p=0):startG me txn n chosen na (l++[p])=startG me txn n chosen na l:=by
 unfold startG; rw [List.filter_append,List.flatMap_append]; simp [List.filter_cons,h]
theorem coStart_spec (w0:World) (b:Nat) (k:Coo) (n:Int) (S:Hp) (H:uW w0 b k S) (hl:k.parts.length≤1000) (ha0:0≤k.acc) (ha7:k.acc≤7) :
  yO Tryz.prog w0 167 [.pointer (some ⟨b,0,none⟩),.int .i64 n] S (fun r h'=>∃ h S2,OwL w0 0 (startL k n) r h∧uW w0 b (startC k n) S2∧S2+h=h'):=by
 obtain ⟨vp,pm,pp,ab,cb,h1,h2,h3,h4,h5,hp,ha,hc,hm,hq,rfl⟩:=H.out
 clear H
 obtain ⟨ap,cp,rfl⟩:=hp.shape
 generalize hC:cooC b k.me k.txn (.slice ap k.parts.length cp) k.acc (.map (some ab)) (.map (some cb)) (.bool k.started) k.number pm pp k.top=C at *
 obtain ⟨me,txn,parts,acc,l1,chosen,st,num,l2,l3,top⟩:=k
 simp only at *
 subst hC
 obtain ⟨na,rfl⟩:=Int.eq_ofNat_of_zero_le ha0
 refine zN Tryz.func167 M Tryz.ntmps167 Tryz.results167 M fun fr=>?_
 refine zdB ?_
 refine kF M M (kA M M M M M (c':=(_::_::_::_::_::_::_::_::_::_::_::[])) M) ?_
 rintro _ _ rfl
 repeat (first|refine zK M M M ?_|refine zY M M M M M ?_)
 refine kF M M (kA M M M M M (c':=(_::_::_::_::_::_::_::_::_::_::_::[])) M) ?_
 rintro _ _ rfl
 refine zaC ?_
 refine kF M M ev_mapNew ?_
 rintro _ _ ⟨qb,rfl,rfl⟩
 skip
 refine kF M M ev_mapNew ?_
 rintro _ _ ⟨rb,rfl,rfl⟩
 repeat (first|refine zK M M M ?_|refine zY M M M M M ?_)
 refine kF M M (kA M M M M M (c':=(_::_::_::_::_::_::_::_::_::_::_::[])) M) ?_
 rintro _ _ rfl
 repeat (first|refine zK M M M ?_|refine zY M M M M M ?_)
 refine kF M M (kA M M M M M (c':=(_::_::_::_::_::_::_::_::_::_::_::[])) M) ?_
 rintro _ _ rfl
 refine zcJ ?_
 refine yN parts.length (fun i g L=>∃ (v:Value) (ho R:Hp),g=[(0,.pointer (some ⟨b,0,none⟩)),(5,v),(26,.slice ap parts.length cp),(27,.int .i64 parts.length),(28,.int .i64 i)] ∧
  OwL w0 0 (startG me txn n chosen na (parts.take i)) v ho ∧
  L=cooC b me txn (.slice ap parts.length cp) na (.map (some ab)) (.map (some cb)) (.bool true) n (.map (some qb)) (.map (some rb)) top+(h1+(h2+(h3+(pt qb (.map #[] 0)+pt rb (.map #[] 0)))))+fr+ho+R) _
  ⟨.slice none 0 0,0,h4+h5,rfl,OwL.nil _ _,?_⟩ zsb ?_
 ·show cooC b me txn (.slice ap parts.length cp) na (.map (some ab)) (.map (some cb)) (.bool true) n (.map (some qb)) (.map (some rb)) top+_=_
  generalize cooC b me txn (.slice ap parts.length cp) na (.map (some ab)) (.map (some cb)) (.bool true) n (.map (some qb)) (.map (some rb)) top=Z
  simp only [yA]
  ac_rfl
 rintro i g L hi ⟨v,ho,R,rfl,hv,rfl⟩
 refine zaH ?_
 refine yF M M (yS M M) (fun n1=>?_) (fun n1=>?_)
 ·have hx:i<parts.length:=by omega
  obtain ⟨bq,oq,rfl,e,rfl,hat⟩:=OwL.at hp hx
  have htk:parts.take (i+1)=parts.take i++[parts[i]]:=(List.take_append_getElem hx).symm
  generalize parts[i]=p at hat htk
  refine zdP ?_
  refine kF M M (bK (k:=p) M M hc) ?_
  rintro _ _ ⟨rfl,rfl⟩
  rw [mapI_vI]
  skip
  refine yF M M (yK M M) (fun n2=>?_) (fun n2=>?_)
  ·repeat (first|refine zB ?_|refine zE ?_|refine zK M M M ?_|refine zJ M ?_|refine yL (vs:=[_,_]) (cells:=[_,_,_,_,_,_,_,_,_,_,_,_,_,_,_,_,_]) M M M M ?_)
   refine zX M M (zQ M M M) (all_spec w0 b me txn (.slice (some ⟨bq,oq,none⟩) parts.length cp) na (.map (some ab)) (.map (some cb)) (.bool true) n (.map (some qb)) (.map (some rb)) top (msg0 8 p 0) M M (by omega)) ?_
   rintro vm _ ⟨hm2,ho2,rfl⟩
   skip
   obtain ⟨es2,w1,w2⟩:=id ho2
   have hlen1:=startG_len me txn n chosen na (by omega) (parts.take i)
   have hlen2:(allF me txn n (msg0 8 p 0) na).length=na:=by simp [allF]
   have hlen3:(parts.take i).length≤1000:=by rw [List.length_take]; omega
   refine kF M M (xR (X:=0) (h:=ho) M M hv w1.rd w2 M M M M M (by rw [hlen2]; omega)) ?_
   rintro v5 _ ⟨h5',ho5,rfl⟩
   rw [← startG_yes _ _ _ _ _ _ _ n2] at ho5
   refine zaI ?_
   exact ⟨hx,_,zsb,v5,h5',R+hm2,rfl,by rw [htk]; exact ho5,by ac_rfl⟩
  ·refine zaJ ?_
   exact ⟨hx,_,zsb,v,ho,R,rfl,by rw [htk,startG_no _ _ _ _ _ _ _ n2]; exact hv,rfl⟩
 ·obtain rfl:i=parts.length:=by omega
  rw [List.take_length] at hv
  refine zaK ?_
  have hK:uW w0 b (startC ⟨me,txn,parts,na,l1,chosen,st,num,l2,l3,top⟩ n) (cooC b me txn (.slice ap parts.length cp) na (.map (some ab)) (.map (some cb)) (.bool true) n (.map (some qb)) (.map (some rb)) top+(h1+(h2+(h3+(pt qb (.map #[] 0)+pt rb (.map #[] 0)))))) :=
   ⟨⟨.slice ap parts.length cp,.map (some qb),.map (some rb),ab,cb,h1,h2,h3,pt qb (.map #[] 0),pt rb (.map #[] 0),hp,ha,hc,by exact ⟨qb,rfl,[],pt qb (.map #[] 0),0,qT.empty qb,rfl,(yA _).symm⟩,by exact ⟨rb,rfl,qT.empty rb⟩,rfl⟩⟩
  refine ⟨[_],(cooC b me txn (.slice ap parts.length cp) na (.map (some ab)) (.map (some cb)) (.bool true) n (.map (some qb)) (.map (some rb)) top+(h1+(h2+(h3+(pt qb (.map #[] 0)+pt rb (.map #[] 0))))))+ho,R,⟨rfl,trivial⟩,⟨ho,_,hv,hK,rfl⟩,?_⟩
  ac_rfl
def CliP (w0:World) (X:Hp) (b tb:Nat) (ps:List PRq) (c:Cl) (S:Hp):Prop :=
 ∃ V hG hE hD hR hT hK hO,xT w0 X b c V tb ps hG hE hD hR hT hK hO∧S=cliC b (clL c V)+(hG+(hE+(hD+(hR+(hT+(hK+hO))))))
def AfterP (w0:World) (X:Hp) (b tb:Nat) (ps:List PRq) (c:Cl) (h:Hp):Prop:=∃ E S,CliP w0 (X+E) b tb ps c S∧X+E+S=h
section
variable {w0:World} {X L R:Hp} {b tb:Nat} {ps:List PRq} {c:Cl} {S:Hp}
theorem CliP.cli (H:CliP w0 X b tb ps c S):kT w0 X b tb c S:=by
 obtain ⟨V,hG,hE,hD,hR,hT,hK,hO,hp,rfl⟩:=H
 exact ⟨V,ps,hG,hE,hD,hR,hT,hK,hO,hp,rfl⟩
theorem AfterP.after {h:Hp} (H:AfterP w0 X b tb ps c h):kP w0 X b tb c h:=by
 obtain ⟨E,S,h1,h2⟩:=H
 exact ⟨E,S,h1.cli,h2⟩
theorem AfterP.trans {E:Hp} {h:Hp} (H:AfterP w0 (X+E) b tb ps c h):AfterP w0 X b tb ps c h:=by
 obtain ⟨F,S,h1,h2⟩:=H
 exact ⟨E+F,S,by rw [← yZ]; exact h1,by rw [← yZ]; exact h2⟩
theorem AfterP.now (H:CliP w0 X b tb ps c S):AfterP w0 X b tb ps c (X+S):=⟨0,S,by rw [yA]; exact H,by rw [yA]⟩
theorem xT.nowP {V:Raw} {hG hE hD hR hT hK hO:Hp} (H:xT w0 X b c V tb ps hG hE hD hR hT hK hO):AfterP w0 X b tb ps c (X+(cliC b (clL c V)+(hG+(hE+(hD+(hR+(hT+(hK+hO)))))))):=.now ⟨V,hG,hE,hD,hR,hT,hK,hO,H,rfl⟩
end
theorem zeV {G G' : Prop} (h : G') (f : Zh G'→G:=by intro h; (repeat (first|refine zE ?_|refine zK M M M ?_|refine zY M M M M M ?_|refine xD M M M (c':=(_::_::_::_::_::_::_::_::_::_::_::_::_::_::_::_::_::_::_::_::_::_::_::_::_::_::_::_::_::_::_::_::_::_::_::_::_::_::[])) M M M M ?_)); exact h.o) : G:=f ⟨h⟩
theorem zdR {G G' : Prop} (h : G') (f : Zh G'→G:=by intro h; (repeat (first|refine zB ?_|refine zK M M M ?_|refine zY M M M M M ?_|refine yM M M M M M ?_)); exact h.o) : G:=f ⟨h⟩
section
variable (w0:World) (X:Hp) (b tb:Nat) (c:Cl) (S:Hp) (n:Nat)
theorem filter_rq (q:Rq→Bool) (xs:List GRq):(xs.filter fun x=>q x.rq).map (·.rq)=(xs.map (·.rq)).filter q:=by rw [List.filter_map]; rfl
theorem drop_spec (hS:kT w0 X b tb c S) (hB:Bd n c) (hn:n≤1000000000) :
  yO Tryz.prog w0 118 [pB b] (X+S) (fun r h'=>Now w0 X b tb (kR c) h'):=by
 obtain ⟨⟨vmem,vr0,vsets,vmr,vg,ve,vd,vrq,vop,vow,vw,vco,vou,van⟩,ps,hG,hE,hD,hR,hT,hK,hO,P,rfl⟩:=hS
 obtain ⟨r1,r2,r3,r4,rfl⟩:=P.reqs
 have hlp:=r4.length
 have hG4:=gZ.of r4
 have hdel:=deleteFuncG_spec w0 (X+r2) (zipG ps c.reqs) vrq r1 207 [] (fun x=>!x.rq.tidy) (r3.toG _ (ptr_zip hlp)) (by have:=hB.reqs; simp only [zipG,List.length_map,List.length_zip]; omega)
  (fun Y x e hx he=>by
   obtain ⟨g1,g2,e1,e2⟩:=hG4.mem hx
   exact yO.frameL (R:=X+g2) (by rw [e2]; ac_rfl) (drop1_spec w0 X b tb x.rq x.blk g1 e1))
 refine zN Tryz.func118 M Tryz.ntmps118 Tryz.results118 M fun fr=>?_
 refine zdR ?_
 refine zX M M (zQ M M M) hdel ?_
 rintro v5 _ ⟨h5,ho5,rfl⟩
 obtain ⟨k1,k2,e3,e4⟩:=gZ.filter (fun x=>x.rq.tidy) hG4
 rw [show (fun x:GRq=>!(!x.rq.tidy))=(fun x=>x.rq.tidy) from funext fun x=>Bool.not_not _] at ho5
 have hrq:((zipG ps c.reqs).filter fun x=>x.rq.tidy).map (·.rq)=(kR c).reqs:=by rw [filter_rq (fun r=>r.tidy),rq_zip hlp]; rfl
 have hto:=e3.to
 rw [hrq] at hto
 obtain ⟨a5,c5,rfl⟩:=ho5.shape
 subst e4
 refine zeV ?_
 have hP:xT w0 X b (kR c) ⟨vmem,vr0,vsets,vmr,vg,ve,vd,.slice a5 _ c5,vop,vow,vw,vco,vou,van⟩ tb (ptrG _) hG hE hD _ hT hK hO :=
  xT.mk P.mem P.rngs0 P.sets P.mr P.guess P.ended P.dbts (ReqsAt.intro ho5.ofG hto) P.opn P.own P.txn P.waits P.coord P.out P.ansd
 exact end_cli [] trivial hP (by exact rfl) hP.now
theorem putting_spec (ps:List PRq) (hS:CliP w0 X b tb ps c S) (ho:c.out.length≤1000000000) (m:Msg) (a a2:Option Addr) (d d2:Nat) (he:RdL w0 X (.slice a m.entries.length d) m.entries) (hd:RdL w0 X (.slice a2 m.data.length d2) m.data) (hl:m.entries.length≤1000000000) (hdl:m.data.length≤1000000000) :
  yO Tryz.prog w0 114 [pB b,.agg (xI m (.slice a m.entries.length d) (.slice a2 m.data.length d2)).toArray] (X+S) (fun r h'=>AfterP w0 X b tb ps (putF c m) h'):=by
 obtain ⟨⟨vmem,vr0,vsets,vmr,vg,ve,vd,vrq,vop,vow,vw,vco,vou,van⟩,hG,hE,hD,hR,hT,hK,hO,P,rfl⟩:=hS
 have hput:=msgPut_spec w0 X { m with src:=c.addr } a a2 d d2 he hd hl hdl
 obtain ⟨kd,sr,ds,gp,tm,ix,pv,cm,rn,tx,pa,bl,vl,sq,ok,es,da⟩:=m
 refine zN Tryz.func114 M Tryz.ntmps114 Tryz.results114 M fun fr=>?_
 repeat (first|refine zF ?_|refine zB ?_|refine zE ?_|refine zK M M M ?_|refine zY M M M M M ?_|refine yM M M M M M ?_|refine xD M M M (c':=[_,_,_,_,_,_,_,_,_,_,_,_,_,_,_,_,_]) M M M M ?_|refine xJ M (vs:=[_,_,_,_,_,_,_,_,_,_,_,_,_,_,_,_,_]) M M M M M ?_|refine xN M (c:=[_,_,_,_,_,_,_,_,_,_,_,_,_,_,_,_,_]) M M M (fun _=>?_))
 refine zX M M (zQ M M M) hput ?_
 unfold putF
 rintro _ _ (⟨hc,rfl,rfl⟩|⟨hc,hlen,rfl,rfl⟩|⟨hc,hlen,u,hu,rfl,hou,rfl⟩)
 ·refine zaC ?_
  refine yP M M (yK M M) hc ?_
  refine zaX ?_
  rw [if_neg (fun h=>hc h.1)]
  exact end_cli [] trivial P (by exact rfl) P.nowP
 ·refine zaC ?_
  refine yP M M (yK M M) (by decide) ?_
  refine zaX ?_
  rw [if_neg (fun h=>Nat.not_lt.2 h.2 hlen)]
  exact end_cli [] trivial P (by exact rfl) P.nowP
 ·refine zaC ?_
  refine kD M M (yK M M) M ?_
  repeat (first|refine zE ?_|refine zJ M ?_)
  obtain ⟨au,cu,rfl⟩:=hou.shape
  obtain ⟨ao,co,hvo⟩:=P.out.shape
  simp only at hvo
  subst hvo
  have hpk:Rep.rd w0 (X+hu) (⟨c.addr,ds,pkB ⟨kd,c.addr,ds,gp,tm,ix,pv,cm,rn,tx,pa,bl,vl,sq,ok,es,da⟩⟩:Pkt) [.int .i64 c.addr,.int .i64 ds,.slice au _ cu]:=⟨au,cu,rfl,hou.rd (X:=0) (R:=X),hou.capOf⟩
  refine yB [13,14,17] [0,1,2,3,4,5,6,7,8,9,10,11,12,13,14,15,16,17] (by kernel_rfl) M (by kernel_rfl) (by kernel_rfl) ?_
  repeat (first|refine yH M M M M M ?_|refine yD M M M M (zZ M M M) ?_|refine yQ M M M M (yE M) (zG M (zS M)) ?_|refine yD M M M M (wJ (vs:=[_,_,_]) (cells:=[_,_,_]) M M) ?_)
  refine xS M M M M (xV (vs:=[_]) (cells:=[_,_,_]) M M M M) (xF.all _) ?_
  rintro _ _ ⟨bn,rfl,rfl⟩
  refine ⟨zka,?_⟩
  skip
  refine xS M M M M (xR (X:=X+hu) (ns:=[_]) (h:=hO) M M (P.out.mono M) (wQ M) (kU.one hpk) M M M M M (by rw [List.length_singleton]; omega)) (xF.all _) ?_
  rintro v5 _ ⟨h5,ho5,rfl⟩
  obtain ⟨a5,c5,rfl⟩:=ho5.shape
  refine ⟨zka,?_⟩
  refine zaO ?_
  refine xS M M M M (kA M M M M M (c':=(_::_::_::_::_::_::_::_::_::_::_::_::_::_::_::_::_::_::_::_::_::_::_::_::_::_::_::_::_::_::_::_::_::_::_::_::_::_::[])) M) (.keep (.keep (.drop (by kernel_rfl) .nil))) ?_
  rintro _ _ rfl
  refine ⟨zka,?_⟩
  repeat (refine yI ?_)
  skip
  have P2:=P.mono (L:=X+hu) (R:=hu) M
  have hP:xT w0 (X+hu) b { c with out:=c.out++[⟨c.addr,ds,pkB ⟨kd,c.addr,ds,gp,tm,ix,pv,cm,rn,tx,pa,bl,vl,sq,ok,es,da⟩⟩] } ⟨vmem,vr0,vsets,vmr,vg,ve,vd,vrq,vop,vow,vw,vco,.slice a5 _ c5,van⟩ tb ps hG hE hD hR hT hK _ :=
   xT.mk P2.mem P2.rngs0 P2.sets P2.mr P2.guess P2.ended P2.dbts P2.reqs P2.opn P2.own P2.txn P2.waits P2.coord ho5 P2.ansd
  rw [if_pos ⟨hc,hlen⟩]
  exact end_cli [] trivial hP (by exact rfl) hP.nowP.trans
end
theorem checkF_kind {o:Opn} (h:jF o=0):1≤o.kind∧o.kind≤11:=by
 by_cases hk:1≤o.kind∧o.kind≤11
 ·exact hk
 ·exfalso; unfold jF at h; rw [if_pos hk] at h; omega
theorem checkF_writes {o:Opn} (h:jF o=0):WritesP o:=by
 unfold jF at h
 repeat' (split at h)
 all_goals first|omega|simp_all
theorem checkF_data {o:Opn} (h:jF o=0):o.data.length≤32768∧o.parts.length≤4∧o.reads.length≤16∧o.writes.length≤8:=by
 unfold jF at h
 repeat' (split at h)
 all_goals first|omega|(refine ⟨?_,?_,?_,?_⟩<;>omega)
theorem wr_len :∀ {l:List Wr},(∀ w∈l,w.data.length=4)→((l.map qR).flatten).length=20*l.length
 | [],_=>rfl
 | x::l,h=>by
  have:=wr_len (l:=l) fun w hw=>h w (by simp [hw])
  have hx:=h x (by simp)
  simp only [List.map_cons,List.flatten_cons,List.length_append,qR,dQ,yX,this,hx,List.length_cons]
  omega
theorem fieldsK_len (k:Int):(xP k).length≤6:=by
 unfold xP
 repeat' split
 all_goals decide
theorem putO_len {o:Opn} (h:jF o=0):(putO o).length≤40000:=by
 have h1:=checkF_data h
 have h2:=wr_len (checkF_writes h)
 have h3:=fieldsK_len o.kind
 have h4:(gV o).length≤33000:=by
  unfold gV
  split
  ·simp only [List.length_append,gM,yX,h2]; omega
  ·split
   ·simp only [dQ,List.length_append,yX]; omega
   ·simp
 unfold putO headO
 simp only [List.length_append,yX,numsO_len]
 omega
theorem modify_set' {α:Type} {l:List α} {i:Nat} {a:α} (h:l[i]?=some a) (f:α→α):l.modify i f=l.set i (f a):=by
 obtain ⟨hi,rfl⟩:=List.getElem?_eq_some_iff.1 h
 apply List.ext_getElem?
 intro j
 rw [List.getElem?_modify,List.getElem?_set]
 by_cases hj:i=j
 ·subst hj; simp [hi]
 ·cases l[j]?<;>simp [hj]
section
variable (w0:World) (X:Hp) (b tb:Nat) (c:Cl) (S:Hp) (n:Nat)
theorem sending_spec (ps:List PRq) (hS:CliP w0 X b tb ps c S) (ho:c.out.length≤1000000000) (i:Nat) (r:Rq) (hr:c.reqs[i]?=some r) (p:PRq) (hp:ps[i]?=some p) (hg:r.group<5) (hgl:c.guess.length=5) (hz:OpSz r.o) :
  yO Tryz.prog w0 82 [pB b,pB p.blk] (X+S) (fun v h'=>AfterP w0 X b tb ps (wZ c i) h'):=by
 obtain ⟨⟨vmem,vr0,vsets,vmr,vg,ve,vd,vrq,vop,vow,vw,vco,vou,van⟩,hG,hE,hD,hR,hT,hK,hO,P,rfl⟩:=hS
 obtain ⟨r1,r2,r3,r4,rfl⟩:=P.reqs
 obtain ⟨p',h1,h2,e1,e2,rfl,e4,-⟩:=r4.get hr
 obtain rfl:p'=p:=by rw [hp] at e1; exact (Option.some.inj e1).symm
 obtain ⟨b1,d1,b2,d2,b3,d3,b4,d4,hv,rfl,q1,q2,q3,q4,hh⟩:=e2
 obtain ⟨ag,cg,hvg⟩:=P.guess.shape
 simp only at hvg
 subst hvg
 have hrdG:RdL w0 hG (.slice ag c.guess.length cg) c.guess:=P.guess.rdh
 have hnew:wX w0 X b tb ps (c.reqs.set i { r with sent:=c.clock }) _:=e4 (r':={ r with sent:=c.clock }) ⟨b1,d1,b2,d2,b3,d3,b4,d4,hv,rfl,q1,q2,q3,q4,hh⟩
 have hrs:(gW c i).reqs=c.reqs.set i { r with sent:=c.clock }:=modify_set' hr _
 rw [← hrs] at hnew
 have hP:xT w0 X b (gW c i) ⟨vmem,vr0,vsets,vmr,.slice ag c.guess.length cg,ve,vd,vrq,vop,vow,vw,vco,vou,van⟩ tb ps hG hE hD _ hT hK hO :=
  xT.mk P.mem P.rngs0 P.sets P.mr P.guess P.ended P.dbts (ReqsAt.intro r3 hnew) P.opn P.own P.txn P.waits P.coord P.out P.ansd
 have hput:=opPut_spec w0 X r.o (wS r.o (.slice b1 r.o.parts.length d1) (.slice b2 r.o.reads.length d2) (.slice b3 r.o.writes.length d3) (.slice b4 r.o.data.length d4)) ⟨b1,d1,b2,d2,b3,d3,b4,d4,rfl,q1,q2,q3,q4⟩ hz.nums ⟨hz.parts,hz.reads,hz.writes⟩ hz.data checkF_kind checkF_writes
 obtain ⟨bq,oq,rfl,eg,rfl,hat⟩:=hrdG.at (i:=r.group) (by omega)
 unfold wZ
 rw [hr]
 refine zN Tryz.func82 M Tryz.ntmps82 Tryz.results82 M fun fr=>?_
 repeat (first|refine zF ?_|refine zB ?_|refine zE ?_|refine zK M M M ?_|refine zY M M M M M ?_|refine yM M M M M M ?_|refine xD M M M (c':=[_,_,_,_,_,_,_,_,_,_,_,_,_,_,_,_,_,_,_,_,_,_]) M M M M ?_|refine xJ M (vs:=[_,_,_,_,_,_,_,_,_,_,_,_,_,_,_,_,_]) M M M M M ?_)
 refine zX M M (zQ M M M) hput ?_
 rintro _ _ (⟨hc,rfl,rfl⟩|⟨hc,u,hu,rfl,hou,rfl⟩)
 ·refine zaC ?_
  refine yP M M (yK M M) hc ?_
  refine zaX ?_
  simp only [if_neg hc]
  exact end_cli [] trivial hP (by exact rfl) hP.nowP
 ·refine zaC ?_
  refine kD M M (yK M M) M ?_
  repeat (first|refine zE ?_|refine zJ M ?_)
  simp only [if_pos hc]
  obtain ⟨au,cu,rfl⟩:=hou.shape
  refine yB [22] [0,1,2,3,4,5,6,7,8,9,10,11,12,13,14,15,16,17,18,19,20,21,22] (by kernel_rfl) M (by kernel_rfl) (by kernel_rfl) ?_
  repeat (first|refine yH M M M M M ?_|refine yD M M M M (zZ M M M) ?_|refine yQ M M M M (yE M) (zG M (zS M)) ?_|refine gY M M M (by omega) M M M ?_|refine W_at M M (by assumption) M M M M M ?_|refine yD M M M M (wJ (vs:=[_,_,_,_,_]) (cells:=[_,_,_,_,_,_,_,_,_,_,_,_,_,_,_,_,_]) M M) ?_)
  have hgu:c.guess[r.group]=vO c r.group:=by unfold vO; rw [List.getD_eq_getElem?_getD,List.getElem?_eq_getElem (by omega)]; rfl
  rw [hgu]
  have hP':xT w0 X b { c with reqs:=c.reqs.modify i fun r=>{ r with sent:=c.clock } } ⟨vmem,vr0,vsets,vmr,.slice (some ⟨bq,oq,none⟩) c.guess.length cg,ve,vd,vrq,vop,vow,vw,vco,vou,van⟩ tb ps hG hE hD _ hT hK hO:=hP
  have hpt:=putting_spec w0 (X+hu) b tb { c with reqs:=c.reqs.modify i fun r=>{ r with sent:=c.clock } } _ ps ⟨_,hG,hE,hD,_,hT,hK,hO,hP'.mono M,rfl⟩ ho (askM c r) none au 0 cu (RdL.nil _ _ _) (hou.rd (X:=0) (R:=X)) (by show 0≤1000000000; omega) (by show (putO r.o).length≤1000000000; have:=putO_len hc; omega)
  refine xU M M M M (zQ M M M) hpt (.drop (by kernel_rfl) (.drop (by kernel_rfl) (.drop (by kernel_rfl) (.drop (by kernel_rfl) (.drop (by kernel_rfl) .nil))))) ?_
  rintro _ _ hA
  refine ⟨trivial,?_⟩
  repeat (refine yI ?_)
  skip
  exact ⟨[],_,_,trivial,hA.trans,yJ.out⟩
end
theorem putF_out (c:Cl) (m:Msg):(putF c m).out.length≤c.out.length+1:=by
 unfold putF; simp only; split
 ·simp
 ·omega
theorem putsF_out :∀ (l:List Msg) (c:Cl),(wW c l).out.length≤c.out.length+l.length
 | [],c=>Nat.le_refl _
 | m::l,c=>by
  have h1:=putF_out c m
  have h2:=putsF_out l (putF c m)
  show (wW (putF c m) l).out.length≤_
  rw [List.length_cons]; omega
theorem putsF_snoc (c:Cl) (l:List Msg) (m:Msg):wW c (l++[m])=putF (wW c l) m:=by unfold wW; rw [List.foldl_append]; rfl
theorem sendF_out (c:Cl) (i:Nat):(wZ c i).out.length≤c.out.length+1:=by
 unfold wZ
 split
 ·omega
 ·split
  ·exact putF_out _ _
  ·exact Nat.le_succ _
theorem sendsF_out :∀ (l:List Nat) (c:Cl),(wP c l).out.length≤c.out.length+l.length
 | [],c=>Nat.le_refl _
 | i::l,c=>by
  have h1:=sendF_out c i
  have h2:=sendsF_out l (if dueF c i=true then wZ c i else c)
  show (wP (if dueF c i=true then wZ c i else c) l).out.length≤_
  rw [List.length_cons]
  split at h2
  ·rename_i h; rw [if_pos h]; omega
  ·rename_i h; rw [if_neg h]; omega
theorem sendsF_snoc (c:Cl) (l:List Nat) (i:Nat):wP c (l++[i])=if dueF (wP c l) i=true then wZ (wP c l) i else wP c l:=by unfold wP; rw [List.foldl_append]; rfl
theorem same_keep {c c':Cl} (h:Same c c'):c'.clock=c.clock∧c'.guess=c.guess∧c'.reqs.map vS=c.reqs.map vS∧c'.addr=c.addr:=by obtain ⟨o,r,rfl,e⟩:=h; exact ⟨rfl,rfl,e,rfl⟩
theorem core_get {l m:List Rq} (h:l.map vS=m.map vS) {i:Nat} {r:Rq} (hr:m[i]?=some r):∃ r',l[i]?=some r'∧vS r'=vS r:=by
 have:(l.map vS)[i]?=(m.map vS)[i]?:=by rw [h]
 rw [List.getElem?_map,List.getElem?_map,hr] at this
 cases hl:l[i]? with
 | none=>rw [hl] at this; cases this
 | some r'=>rw [hl] at this; exact ⟨r',rfl,by simpa using this⟩
theorem qX {l:List Rq} {i:Nat} (h:i∈xA l):i<l.length:=by
 unfold xA at h
 have:=(List.mem_filter.1 h).1
 simpa using this
theorem firstF_len (l:List Rq):(xA l).length≤l.length:=by
 unfold xA
 refine Nat.le_trans (List.length_filter_le _ _) ?_
 rw [List.length_range]; omega
theorem ret_cliX {w0:World} {X:Hp} {b tb:Nat} {c:Cl} {P:Program} {V:Raw} {ps:List PRq} {hG hE hD hR hT hK hO J L R R2 fr:Hp} {rs:List ResultVar} {g:Env} {post:Value→Hp→Prop} (vs:List Value) (hres:ResOk P w0 g L rs vs) {cs:List Value}
  (H:xT w0 X b c V tb ps hG hE hD hR hT hK hO) [hb:HasPt b L (.cells cs.toArray 95 (0,0)) R] [hf:yJ (X+(hG+(hE+(hD+(hR+(hT+(hK+hO))))))+J+fr) R R2] (hcs:clL c V=cs)
  (hp:post (oneV vs) (X+(cliC b (clL c V)+(hG+(hE+(hD+(hR+(hT+(hK+hO))))))+J))):retD P w0 rs fr post .ret g L:=by
 subst hcs
 have e1:=hb.out
 have e2:=hf.out
 exact ⟨vs,_,R2,hres,hp,by rw [e1,e2]; simp only [cliC]; ac_rfl⟩
def RspAt (w0:World) (X:Hp) (rs:Rsp) (r:Value) (h:Hp):Prop :=
 ∃ vo ad cd,r=.tuple #[vo,.agg [.int .i64 rs.ans.code,.int .i64 rs.ans.txn,.slice ad rs.ans.data.length cd].toArray,.bool rs.answered]∧OwL w0 X rs.out vo h∧RdL w0 X (.slice ad rs.ans.data.length cd) rs.ans.data
def Fin (w0:World) (X:Hp) (b tb:Nat) (c:Cl) (rs:Rsp) (r:Value) (h:Hp):Prop:=∃ E S ho,RspAt w0 (X+E) rs r ho∧kT w0 (X+E) b tb c S∧X+E+(S+ho)=h
theorem Fin.trans {w0:World} {X E:Hp} {b tb:Nat} {c:Cl} {rs:Rsp} {r:Value} {h:Hp} (H:Fin w0 (X+E) b tb c rs r h):Fin w0 X b tb c rs r h:=by
 obtain ⟨F,S,ho,h1,h2,h3⟩:=H
 exact ⟨E+F,S,ho,by rw [← yZ]; exact h1,by rw [← yZ]; exact h2,by rw [← yZ X E F]; exact h3⟩
theorem zcS {G G' : Prop} (h : G') (f : Zh G'→G:=by intro h; (repeat (first|refine yH M M M M M ?_|refine yD M M M M (zZ M M M) ?_|refine yQ M M M M (yE M) (zG M (zS M)) ?_|refine yQ M M M M (yE M) (zL (vs:=[_,_,_]) M M M) ?_)); exact h.o) : G:=f ⟨h⟩
section
variable (w0:World) (X:Hp) (b tb:Nat) (c:Cl) (S:Hp) (n:Nat)
theorem putting_all_spec (ps:List PRq) (hS:CliP w0 X b tb ps c S) (l:List Msg) (a:Option Addr) (cp:Nat) (hv:RdL w0 X (.slice a l.length cp) l) (ho:c.out.length+l.length≤1000000000) (hm:∀ m∈l,m.entries.length≤1000000000∧m.data.length≤1000000000) :
  yO Tryz.prog w0 55 [pB b,.slice a l.length cp] (X+S) (fun r h'=>AfterP w0 X b tb ps (wW c l) h'):=by
 refine zN Tryz.func55 M Tryz.ntmps55 Tryz.results55 M fun fr=>?_
 refine zaS ?_
 refine yN l.length (fun k g L=>∃ (E S' R:Hp),g=[(0,pB b),(6,.slice a l.length cp),(7,.int .i64 l.length),(8,.int .i64 k)]∧CliP w0 (X+E) b tb ps (wW c (l.take k)) S'∧L=X+E+S'+fr+R) _
  ⟨0,S,0,rfl,by rw [yA]; exact hS,by rw [yA,yA]⟩ zsb ?_
 rintro k g L hk ⟨E,S',R,rfl,hS',rfl⟩
 refine zaH ?_
 refine yF M M (yS M M) (fun n1=>?_) (fun n1=>?_)
 ·have hx:k<l.length:=by omega
  obtain ⟨bq,oq,rfl,e,hre,hat⟩:=hv.at hx
  obtain ⟨a1,c1,a2,c2,rfl,he,hd⟩:=id hre
  obtain ⟨m1,m2⟩:=hm _ (List.getElem_mem hx)
  have hput:=putting_spec w0 (X+E) b tb (wW c (l.take k)) S' ps hS' (by have:=putsF_out (l.take k) c; rw [List.length_take] at this; omega) l[k] a1 a2 c1 c2 (he.mono M) (hd.mono M) m1 m2
  repeat (first|refine zF ?_|refine zR ?_|refine zB ?_|refine zE ?_|refine zK M M M ?_|refine zP ?_|refine zJ M ?_|refine kC M M (by omega) M M ?_|refine vU M (by assumption) M M M M ?_|refine xJ M (vs:=[_,_,_,_,_,_,_,_,_,_,_,_,_,_,_,_,_]) M M M M M ?_|refine yY M (vs:=[_,_,_,_,_,_,_,_,_,_,_,_,_,_,_,_,_]) M M M M (c':=[_,_,_,_,_,_,_,_,_,_,_,_,_,_,_,_,_]) M M ?_|refine xK (c:=[_,_,_,_,_,_,_,_,_,_,_,_,_,_,_,_,_]) M M M (fun _=>?_))
  refine zX M M (zQ M M M) hput ?_
  rintro _ _ ⟨E2,S2,h1,rfl⟩
  refine zaI ?_
  exact ⟨hx,_,zsb,E+E2,S2,_,rfl,by rw [List.take_succ_eq_append_getElem hx,putsF_snoc,← yZ]; exact h1,yJ.out⟩
 ·obtain rfl:k=l.length:=by omega
  rw [List.take_length] at hS'
  refine zbU ?_
  exact ⟨[],_,_,trivial,⟨E,S',hS',rfl⟩,yJ.out⟩
theorem doneC_spec (hS:kT w0 X b tb c S) (hB:Bd n c) (hn:n≤100000000) (hF:xG c) :
  yO Tryz.prog w0 32 [pB b] (X+S) (fun r h'=>Fin w0 X b tb (dO c) (endF c) r h'):=by
 obtain ⟨V,ps,hG,hE,hD,hR,hT,hK,hO,P,rfl⟩:=hS
 obtain ⟨r1,r2,r3,r4,rfl⟩:=P.reqs
 have hlp:=r4.length
 have hgr:∀ r∈c.reqs,r.group<5:=fun r hr=>(hF.reqs (vS r) (List.mem_map.2 ⟨r,hr,rfl⟩)).1
 have hfirst:=firsts_spec w0 X b tb c V ps r1 r2 hG hE hD hT hK hO P r3 r4 (by have:=hB.reqs; omega) hgr
 have hS0:CliP w0 X b tb ps c (cliC b (clL c V)+(hG+(hE+(hD+((r1+r2)+(hT+(hK+hO))))))):=⟨V,hG,hE,hD,_,hT,hK,hO,P,rfl⟩
 generalize cliC b (clL c V)+(hG+(hE+(hD+((r1+r2)+(hT+(hK+hO))))))=S at hfirst hS0
 clear P r3 r4
 have hll:(wE ps c.reqs).length=(xA c.reqs).length:=by simp [wE]
 have hfl:=firstF_len c.reqs
 have hrq:=hB.reqs
 refine zN Tryz.func32 M Tryz.ntmps32 Tryz.results32 M fun fr=>?_
 repeat (first|refine zF ?_|refine zB ?_|refine zE ?_|refine zK M M M ?_|refine xK (c:=[_,_,_]) M M M (fun _=>?_))
 rename_i b3
 refine zX M M (zQ M M M) hfirst ?_
 rintro vf _ ⟨hf,hof,rfl⟩
 obtain ⟨af,cf,rfl⟩:=hof.shape
 have hrd:RdL w0 hf (.slice af (wE ps c.reqs).length cf) (wE ps c.reqs):=hof.rdh
 refine zdH ?_
 refine yN (xA c.reqs).length (fun k g L=>∃ (E S' R:Hp),g=[(0,pB b),(3,pB b3),(11,.slice af (wE ps c.reqs).length cf),(12,.int .i64 (xA c.reqs).length),(13,.int .i64 k)]∧CliP w0 (X+E) b tb ps (wP c ((xA c.reqs).take k)) S' ∧
  L=X+E+S'+hf+pt b3 (.cells #[.int .i64 0,.int .i64 0,.slice none 0 0] 37 (0,0))+fr+R) _
  ⟨0,S,0,by rw [← hll],by rw [yA]; exact hS0,by rw [yA,yA]; exact yJ.out⟩ zsb ?_
 rintro k g L hk ⟨E,S',R,rfl,hS',rfl⟩
 refine zaH ?_
 refine yF M M (yS M M) (fun n1=>?_) (fun n1=>?_)
 ·have hx:k<(xA c.reqs).length:=by omega
  obtain ⟨bq,oq,rfl,e,rfl,hat⟩:=hrd.at (i:=k) (by omega)
  have hi:=qX (List.getElem_mem hx)
  have hpk:ps[(xA c.reqs)[k]]?=some (wE ps c.reqs)[k]:=by
   simp only [wE,List.getElem_map,List.getD_eq_getElem?_getD]
   rw [List.getElem?_eq_getElem (by omega)]; rfl
  obtain ⟨k1,k2,k3,k4⟩:=same_keep (sendsF_same ((xA c.reqs).take k) c)
  obtain ⟨r',hr',hcr⟩:=core_get k3 (List.getElem?_eq_getElem hi)
  have hsm:=sendsF_snoc c ((xA c.reqs).take k) ((xA c.reqs)[k])
  rw [← List.take_succ_eq_append_getElem hx] at hsm
  have hg':r'.group<5:=by
   have:=hgr _ (List.getElem_mem hi)
   have e:=congrArg Core.group hcr
   simp only [vS] at e; omega
  have hz':OpSz r'.o:=by
   have:=hB.ops (vS c.reqs[(xA c.reqs)[k]]) (List.mem_map.2 ⟨_,List.getElem_mem hi,rfl⟩)
   rw [← hcr] at this; exact this
  have hout:(wP c ((xA c.reqs).take k)).out.length≤1000000000:=by
   have:=sendsF_out ((xA c.reqs).take k) c
   rw [List.length_take] at this
   have:=hB.out
   omega
  have hsend:=sending_spec w0 (X+E) b tb (wP c ((xA c.reqs).take k)) S' ps hS' hout _ r' hr' _ hpk hg' (by rw [k2]; exact hF.guess) hz'
  have hdue:dueF (wP c ((xA c.reqs).take k)) (xA c.reqs)[k]=decide (r'.sent<0∧r'.frm≤(wP c ((xA c.reqs).take k)).clock):=by unfold dueF; rw [hr']
  rw [hdue] at hsm
  generalize (wE ps c.reqs)[k]=pk at hpk hat hsend
  generalize wP c ((xA c.reqs).take k)=c1 at *
  obtain ⟨⟨vmem,vr0,vsets,vmr,vg,ve,vd,vrq,vop,vow,vw,vco,vou,van⟩,hG',hE',hD',hR',hT',hK',hO',P',rfl⟩:=id hS'
  obtain ⟨s1,s2,s3,s4,rfl⟩:=P'.reqs
  obtain ⟨p',h1,h2,e1,⟨b1,d1,b2,d2,b3',d3,b4,d4,hv,rfl,q1,q2,q3,q4,hh⟩,rfl,-,-⟩:=s4.get hr'
  obtain rfl:p'=pk:=by rw [hpk] at e1; exact (Option.some.inj e1).symm
  refine zaT ?_
  refine yB [] [0,1,2,3,4,5,6,7,8,9,10,11,12,13,14,15] (by kernel_rfl) M (by kernel_rfl) (by kernel_rfl) ?_
  refine zaF ?_
  refine jY M M M M (yS M M) (fun n2=>?_) (fun n2=>?_)
  ·refine zaF ?_
   refine jY M M M M (dD M M) (fun n3=>?_) (fun n3=>?_)
   ·refine zaD ?_
    repeat (first|refine zB ?_|refine zK M M M ?_|refine zJ M ?_)
    rw [decide_eq_true ⟨n2,n3⟩,if_pos M] at hsm
    refine zX M M (zQ M M M) hsend ?_
    rintro _ _ ⟨E2,S2,h6,rfl⟩
    refine zaI ?_
    exact ⟨hx,_,zsb,E+E2,S2,_,rfl,by rw [hsm,← yZ]; exact h6,yJ.out⟩
   ·refine zaD ?_
    refine zaJ ?_
    rw [decide_eq_false (fun h=>n3 h.2),if_neg (by simp)] at hsm
    exact ⟨hx,_,zsb,E,_,_,rfl,by rw [hsm]; exact hS',yJ.out⟩
  ·refine zaR ?_
   refine zaJ ?_
   rw [decide_eq_false (fun h=>n2 h.1),if_neg (by simp)] at hsm
   exact ⟨hx,_,zsb,E,_,_,rfl,by rw [hsm]; exact hS',yJ.out⟩
 ·obtain rfl:k=(xA c.reqs).length:=by omega
  rw [List.take_length] at hS'
  have hfl2:wP c (xA c.reqs)=vV c:=rfl
  rw [hfl2] at hS'
  unfold dO endF
  generalize vV c=c1 at *
  obtain ⟨⟨vmem,vr0,vsets,vmr,vg,ve,vd,vrq,vop,vow,vw,vco,vou,van⟩,hG',hE',hD',hR',hT',hK',hO',P',rfl⟩:=hS'
  obtain ⟨ao,co,hvo⟩:=P'.out.shape
  obtain ⟨ad,cd,hvd,hrd2⟩:=P'.ansd
  simp only at hvo hvd
  subst hvo
  subst hvd
  refine zbU ?_
  refine yB [12,14] [0,1,2,3,4,5,6,7,8,9,10,11,12,13,14,15] (by kernel_rfl) M (by kernel_rfl) (by kernel_rfl) ?_
  refine zcS ?_
  refine xS M M M M ev_alloc (xF.all _) ?_
  rintro _ _ ⟨b8,rfl,hL⟩
  have hL':_=pt b8 (.cells [.int .i64 0,.int .i64 0,.slice none 0 0].toArray 37 (0,0))+_:=hL
  subst hL'
  clear hL
  refine ⟨zka,?_⟩
  repeat (refine yH M M M M M ?_)
  refine xS M M M M (wH (vs:=[_,_,_]) M M M M (c:=[_,_,_]) (Nat.le_of_ble_eq_true M) (c':=[_,_,_]) M) (xF.all _) ?_
  rintro _ _ rfl
  refine ⟨zka,?_⟩
  refine zaD ?_
  repeat (first|refine zF ?_|refine zB ?_|refine zE ?_|refine zK M M M ?_|refine zY M M M M M ?_|refine xD M M M (c':=(_::_::_::_::_::_::_::_::_::_::_::_::_::_::_::_::_::_::_::_::_::_::_::_::_::_::_::_::_::_::_::_::_::_::_::_::_::_::[])) M M M M ?_|refine yL (vs:=[]) (cells:=[_,_,_]) M M M M ?_|refine yY M (vs:=[_,_,_]) M M M M (c':=(_::_::_::_::_::_::_::_::_::_::_::_::_::_::_::_::_::_::_::_::_::_::_::_::_::_::_::_::_::_::_::_::_::_::_::_::_::_::[])) M M ?_)
  refine yB [4] [0,1,2,3,4,5] (by kernel_rfl) M (by kernel_rfl) (by kernel_rfl) ?_
  repeat (first|refine yH M M M M M ?_|refine yQ M M M M (yE M) (zL (vs:=[_,_,_]) M M M) ?_)
  refine xS M M M M (wH (vs:=[_,_,_]) M M M M (c:=[_,_,_]) (Nat.le_of_ble_eq_true M) (c':=[_,_,_]) M) (xF.all _) ?_
  rintro _ _ rfl
  refine ⟨zka,?_⟩
  refine zaD ?_
  repeat (refine zM ?_)
  have hP:xT w0 (X+E) b { c1 with out:=[],ans:=ans0,answered:=false } ⟨vmem,vr0,vsets,vmr,vg,ve,vd,vrq,vop,vow,vw,vco,.slice none 0 0,.slice none 0 0⟩ tb ps hG' hE' hD' hR' hT' hK' 0 :=
   xT.mk P'.mem P'.rngs0 P'.sets P'.mr P'.guess P'.ended P'.dbts P'.reqs P'.opn P'.own P'.txn P'.waits P'.coord (OwL.nil _ _) ⟨none,0,rfl,RdL.nil _ _ _⟩
  refine ret_cliX (X:=X+E) (J:=hO') [_,_,_] ⟨rfl,⟨_,rfl,zL (vs:=[_,_,_]) M M M⟩,rfl,trivial⟩ hP (by exact rfl) ?_
  exact ⟨E,_,hO',⟨_,ad,cd,rfl,P'.out,hrd2⟩,⟨_,ps,hG',hE',hD',hR',hT',hK',0,hP,rfl⟩,rfl⟩
end
end Sl
end Go.Proofs.YtfahijncpmlhjaaGreat
namespace Go.Proofs.YtfahijncpmlhjaaGreat
open Go Go.RowKit
namespace Sl
structure qH (x:Cal):Prop where
 block:I64 x.block
 snap:I64 x.snap
 src:I64 x.src
 dst:I64 x.dst
 lo:I64 x.lo
 hi:I64 x.hi
 node:I64 x.node
 value:I64 x.value
def HrdSz :Hrd→Prop
 | .quiet=>True
 | .look=>True
 | .read b=>I64 b
 | .part o _=>OpSz o
 | .kept x=>qH x
 | .plan x=>qH x
 | .frz x e=>qH x∧I64 e
 | .inst x e=>qH x∧I64 e
 | .fin x e=>qH x∧I64 e
 | .change x=>qH x
def WtsSz :Option Wts→Prop
 | some (.read x)=>qH x
 | some (.kept x)=>qH x
 | some (.again x)=>qH x
 | _=>True
structure TxnSz (n:Nat) (t:Txn):Prop where
 nums:I64 t.id∧I64 t.age∧I64 t.slo∧I64 t.shi
 parts:t.parts.length≤4
 asked:t.asked.length≤n
 reads:t.reads.length≤n∧∀ r∈t.reads,r.data.length≤1000000
 writes:t.writes.length≤8∧(∀ w∈t.writes,w.data.length≤1000000)∧RisesW t.writes
structure MppSz (m:Mpp):Prop where
 len:m.rngs.length≤4
 nodup:(m.rngs.map (·.group)).Nodup
 ep:∀ r∈m.rngs,I64 r.epoch
 m1:I64 m.m1
structure CooSz (n:Nat) (k:Coo):Prop where
 parts:k.parts.length≤4
 acc:0≤k.acc∧k.acc≤7
 accepted:∀ x∈k.accepted,x.2.length≤n
 promised:∀ x∈k.promised,x.2.length≤n
 top:0≤k.top∧k.top≤9223372036854775807
def CoSz (n:Nat) (o:Option Coo):Prop:=∀ k,o=some k→CooSz n k
def DbSz (n:Nat) (l:List Dbt):Prop:=l.length≤n∧∀ d∈l,d.groups.length≤5
def NumSz (n:Nat) (round started since txns nodes:Int) (guess:List Int):Prop :=
 (0≤round∧round≤9000000000000+n)∧(0≤started∧started≤n)∧(0≤since∧since≤n)∧(0≤txns∧txns≤1048575)∧(1≤nodes∧nodes≤7)∧∀ g∈guess,0≤g∧g≤1000
def SetSz (l:List Spn):Prop:=l.length≤1000∧∀ s∈l,I64 s.lo∧I64 s.hi
structure Sz (n:Nat) (c:Cl):Prop where
 bd:Bd n c
 hrd:∀ r∈c.reqs.map vS,HrdSz r.heard
 sent:∀ r∈c.reqs,-1≤r.sent∧r.sent≤n
 m:MppSz c.m
 cur:TxnSz n c.cur
 db:DbSz n c.doubts
 co:CoSz n c.coord
 wts:WtsSz c.waits
 num:NumSz n c.round c.started c.since c.txns c.nodes c.guess
 sets:SetSz c.sets
theorem TxnSz.mono {n m:Nat} {t:Txn} (h:TxnSz n t) (e:n≤m):TxnSz m t:=⟨h.nums,h.parts,Nat.le_trans h.asked e,⟨Nat.le_trans h.reads.1 e,h.reads.2⟩,h.writes⟩
theorem CooSz.mono {n m:Nat} {t:Coo} (h:CooSz n t) (e:n≤m):CooSz m t:=⟨h.parts,h.acc,fun x hx=>Nat.le_trans (h.accepted x hx) e,fun x hx=>Nat.le_trans (h.promised x hx) e,h.top⟩
theorem NumSz.mono {n m:Nat} {a b c d f:Int} {g:List Int} (h:NumSz n a b c d f g) (e:n≤m):NumSz m a b c d f g:=by
 obtain ⟨h1,h2,h3,h4,h5,h6⟩:=h
 exact ⟨by omega,by omega,by omega,h4,h5,h6⟩
theorem Sz.mono {n m:Nat} {c:Cl} (h:Sz n c) (e:n≤m):Sz m c :=
 ⟨h.bd.mono e,h.hrd,fun r hr=>⟨(h.sent r hr).1,by have:=(h.sent r hr).2; omega⟩,h.m,h.cur.mono e,⟨Nat.le_trans h.db.1 e,h.db.2⟩,fun k hk=>(h.co k hk).mono e,h.wts,h.num.mono e,h.sets⟩
theorem nodup_len :∀ (k:Nat) (l:List Int),l.Nodup→(∀ x∈l,1≤x∧x≤k)→l.length≤k
 | 0,[],_,_=>Nat.le_refl _
 | 0,x::l,_,h=>by have:=h x (by simp); omega
 | k+1,l,hn,h=>by
  have h1:=nodup_len k (l.erase ((k:Int)+1)) (hn.erase _) (fun x hx=>by
   have hx2:=(hn.mem_erase_iff).1 hx
   have:=h x hx2.2
   have:=hx2.1
   omega)
  have h2:l.length≤(l.erase ((k:Int)+1)).length+1:=by rw [List.length_erase]; split<;>omega
  omega
theorem firstF_pair (l:List Rq):((xA l).map fun i=>(match l[i]? with|some r=>(r.group:Int)+1|none=>0)).Nodup:=by
 unfold List.Nodup
 rw [List.pairwise_map]
 have h0:(xA l).Pairwise (·<·):=List.pairwise_lt_range.filter _
 refine List.Pairwise.imp_of_mem ?_ h0
 intro i j hi hj hij e
 have hil:=qX hi
 have hjl:=qX hj
 unfold xA at hj
 have hj2:=(List.mem_filter.1 hj).2
 rw [List.getElem?_eq_getElem hjl] at hj2 e
 rw [List.getElem?_eq_getElem hil] at e
 simp only [List.all_eq_true] at hj2
 have hm:l[i]∈l.take j:=by
  rw [List.mem_take_iff_getElem]
  exact ⟨i,by omega,rfl⟩
 have:=hj2 _ hm
 simp only [ne_eq,decide_not,Bool.not_eq_true',decide_eq_false_iff_not] at this
 exact this (by simp only at e; omega)
theorem firstF_five {l:List Rq} (hg:∀ r∈l,r.group<5):(xA l).length≤5:=by
 have:=nodup_len 5 _ (firstF_pair l) (by
  intro x hx
  obtain ⟨i,hi,rfl⟩:=List.mem_map.1 hx
  have hil:=qX hi
  rw [List.getElem?_eq_getElem hil]
  have:=hg _ (List.getElem_mem hil)
  show 1≤((l[i].group:Int)+1)∧((l[i].group:Int)+1)≤((5:Nat):Int)
  omega)
 rwa [List.length_map] at this
theorem sorted_sortI (l:List Int):(sortI l).Pairwise (·≤·):=by
 have:=List.pairwise_mergeSort (le:=fun x y:Int=>decide (x≤y)) (fun a b c h1 h2=>by simp at h1 h2 ⊢; omega) (fun a b=>by simp; omega) l
 unfold sortI
 refine this.imp ?_
 intro a b h; simpa using h
theorem compUpTo_le {l:List Int} (hs:l.Pairwise (·≤·)) (h0:∀ x∈l,0≤x):∀ (m:Nat) (hm:m<l.length),((Lib.compactUpTo l.toArray (m+1)).length:Int)≤l[m]+1
 | 0,hm=>by
  have:=h0 _ (List.getElem_mem hm)
  have h1:(Lib.compactUpTo l.toArray 1).length≤1:=by
   unfold Lib.compactUpTo
   rw [List.length_map]
   exact Nat.le_trans (List.length_filter_le _ _) (by simp)
  show ((Lib.compactUpTo l.toArray 1).length:Int)≤l[0]+1
  omega
 | m+1,hm=>by
  have ih:=compUpTo_le hs h0 m (by omega)
  have hle:l[m]≤l[m+1]:=List.pairwise_iff_getElem.1 hs m (m+1) (by omega) hm (by omega)
  rw [Lib.compactUpTo_succ,List.length_append]
  split
  ·rename_i hk
   have hne:l[m+1]≠l[m]:=by
    unfold Lib.keeps at hk
    simp only [Nat.add_eq_zero_iff,Nat.one_ne_zero,and_false,Nat.add_sub_cancel] at hk
    have e1:(l.toArray)[m+1]! = l[m+1]:=by simp [hm]
    have e2:(l.toArray)[m]! = l[m]:=by simp [show m<l.length by omega]
    simpa [e1,e2] using hk
   simp only [List.length_singleton]; omega
  ·simp only [List.length_nil]; omega
theorem vF {c:Cl} (hf:xG c):(xH c.cur).length≤5:=by
 have hg:∀ x∈sortI (c.cur.parts++c.cur.asked),grp x:=by
  intro x hx
  rcases List.mem_append.1 (List.mem_mergeSort.1 hx) with h|h
  ·exact hf.parts x h
  ·exact hf.asked x h
 unfold xH compI Lib.compact
 have hs:=sorted_sortI (c.cur.parts++c.cur.asked)
 generalize sortI (c.cur.parts++c.cur.asked)=l at hg hs
 cases hl:l.length with
 | zero=>simp [Lib.compactUpTo]
 | succ m =>
  have h1:=compUpTo_le hs (fun x hx=>(hg x hx).1) m (by omega)
  have:=(hg _ (List.getElem_mem (show m<l.length by omega))).2
  omega
theorem rises_len :∀ {l:List Int} {last:Int},0≤last→risesF l last=true→(l.length:Int)≤max (4 - last) 0
 | [],last,h0,h=>by simp only [List.length_nil]; omega
 | p::l,last,h0,h=>by
  simp only [risesF,Bool.and_eq_true,decide_eq_true_eq] at h
  have:=rises_len (l:=l) (last:=p) (by omega) h.2
  simp only [List.length_cons]; omega
theorem newOk_parts {me txn:Int} {parts:List Int} {acc:Int} (h:newOk me txn parts acc=true):parts.length≤4∧1≤acc∧acc≤7∧1≤txn∧txn≤1099511627776:=by
 unfold newOk at h
 simp only [Bool.and_eq_true,decide_eq_true_eq] at h
 have:=rises_len (Int.le_refl 0) h.2
 omega
theorem chain_sz :∀ {l:List Rng} {a:Int} {had:List Int} {n e:Int},chainF l a had n=some e→(l.map (·.group)).Nodup∧(∀ r∈l,r.group∉had∧1≤r.group∧r.group≤4∧1≤r.epoch∧r.epoch≤n)
 | [],_,_,_,_,_=>by simp
 | r::l,a,had,n,e,h=>by
  simp only [chainF] at h
  split at h
  ·cases h
  ·rename_i hn
   simp only [not_or] at hn
   obtain ⟨h1,h2⟩:=chain_sz h
   refine ⟨?_,?_⟩
   ·rw [List.map_cons,List.nodup_cons]
    refine ⟨fun hm=>?_,h1⟩
    obtain ⟨q,hq,e1⟩:=List.mem_map.1 hm
    have:=(h2 q hq).1
    rw [e1] at this
    exact this (by simp)
   ·intro q hq
    rcases List.mem_cons.1 hq with rfl|hq
    ·exact ⟨hn.2.2.2.2.2.1,by omega,by omega,by omega,by omega⟩
    ·have:=h2 q hq
     exact ⟨fun hh=>this.1 (by simp [hh]),this.2⟩
theorem checkR_sz {m:Mpp} (h:dZ m=0):MppSz m:=by
 unfold dZ at h
 split at h
 ·omega
 ·rename_i e he
  obtain ⟨h1,h2⟩:=chain_sz he
  have hlen:m.rngs.length≤4:=by
   have:=nodup_len 4 _ h1 (by intro x hx; obtain ⟨r,hr,rfl⟩:=List.mem_map.1 hx; have:=h2 r hr; omega)
   rwa [List.length_map] at this
  split at h
  ·omega
  ·rename_i hn1
   simp only [not_or] at hn1
   have hne:∃ r,r∈m.rngs:=by
    cases hr:m.rngs with
    | nil=>rw [hr] at he; simp only [chainF,Option.some.injEq] at he; omega
    | cons r l=>exact ⟨r,by simp⟩
   obtain ⟨r0,hr0⟩:=hne
   have hr0:=h2 r0 hr0
   split at h
   ·rename_i hmv
    have hm:vK m=m.epoch:=by unfold vK; rw [if_neg (by rw [hmv]; simp)]
    rw [hm] at h2
    have:m.m1=0:=by
     unfold moved at hmv
     simp only [decide_eq_false_iff_not,Decidable.not_not] at hmv
     exact hmv.1
    exact ⟨hlen,h1,fun r hr=>by have:=h2 r hr; unfold I64; omega,by unfold I64; omega⟩
   ·split at h
    ·omega
    ·rename_i hn2
     simp only [not_or,ne_eq,Decidable.not_not] at hn2
     have hlt:vK m<1099511627776:=by
      have hp:=hn2.1
      unfold qE at hp
      repeat' (split at hp)
      all_goals omega
     exact ⟨hlen,h1,fun r hr=>by have:=h2 r hr; unfold I64; omega,by unfold I64; omega⟩
theorem noMap_sz :MppSz noMap:=⟨by simp [noMap],by simp [noMap],by simp [noMap],by unfold I64; simp [noMap]⟩
theorem getMap_sz (b:List Bt):MppSz (jN b).1:=by
 unfold jN
 split
 ·exact noMap_sz
 ·simp only
  split
  ·exact noMap_sz
  ·split
   ·exact noMap_sz
   ·rename_i h3
    simp only [ne_eq,Decidable.not_not] at h3
    exact checkR_sz h3
section
variable {n:Nat} {c:Cl}
theorem Sz.free (h:Sz n c) {opn own busy answered stale:Bool} {kind about:Int} {ans:Ans} {ended:List (Int × Int)} :
  Sz n { c with opn:=opn,own:=own,busy:=busy,kind:=kind,ans:=ans,answered:=answered,ended:=ended,stale:=stale,about:=about } :=
 ⟨⟨h.bd.seq,h.bd.clock,h.bd.reqs,h.bd.ops,h.bd.out,h.bd.id⟩,h.hrd,h.sent,h.m,h.cur,h.db,h.co,h.wts,h.num,h.sets⟩
theorem Sz.wait (h:Sz n c) {w:Option Wts} (hw:WtsSz w):Sz n { c with waits:=w }:=⟨⟨h.bd.seq,h.bd.clock,h.bd.reqs,h.bd.ops,h.bd.out,h.bd.id⟩,h.hrd,h.sent,h.m,h.cur,h.db,h.co,hw,h.num,h.sets⟩
theorem Sz.curs (h:Sz n c) {t:Txn} (ht:TxnSz n t):Sz n { c with cur:=t }:=⟨⟨h.bd.seq,h.bd.clock,h.bd.reqs,h.bd.ops,h.bd.out,h.bd.id⟩,h.hrd,h.sent,h.m,ht,h.db,h.co,h.wts,h.num,h.sets⟩
theorem Sz.maps (h:Sz n c) {m:Mpp} (hm:MppSz m):Sz n { c with m:=m }:=⟨⟨h.bd.seq,h.bd.clock,h.bd.reqs,h.bd.ops,h.bd.out,h.bd.id⟩,h.hrd,h.sent,hm,h.cur,h.db,h.co,h.wts,h.num,h.sets⟩
theorem Sz.dbts (h:Sz n c) {l:List Dbt} (hd:DbSz n l):Sz n { c with doubts:=l }:=⟨⟨h.bd.seq,h.bd.clock,h.bd.reqs,h.bd.ops,h.bd.out,h.bd.id⟩,h.hrd,h.sent,h.m,h.cur,hd,h.co,h.wts,h.num,h.sets⟩
theorem Sz.coos (h:Sz n c) {k:Option Coo} (hk:CoSz n k):Sz n { c with coord:=k }:=⟨⟨h.bd.seq,h.bd.clock,h.bd.reqs,h.bd.ops,h.bd.out,h.bd.id⟩,h.hrd,h.sent,h.m,h.cur,h.db,hk,h.wts,h.num,h.sets⟩
theorem Sz.guessed (h:Sz n c) {l:List Int} (hl:∀ g∈l,0≤g∧g≤1000):Sz n { c with guess:=l }:=⟨⟨h.bd.seq,h.bd.clock,h.bd.reqs,h.bd.ops,h.bd.out,h.bd.id⟩,h.hrd,h.sent,h.m,h.cur,h.db,h.co,h.wts,⟨h.num.1,h.num.2.1,h.num.2.2.1,h.num.2.2.2.1,h.num.2.2.2.2.1,hl⟩,h.sets⟩
theorem Sz.rqs (h:Sz n c) {l:List Rq} (hl:l.length≤n) (hs:∀ r∈l,r∈c.reqs):Sz n { c with reqs:=l }:=by
 have hc:∀ r∈l.map vS,r∈c.reqs.map vS:=fun r hr=>by obtain ⟨q,hq,rfl⟩:=List.mem_map.1 hr; exact List.mem_map.2 ⟨q,hs q hq,rfl⟩
 exact ⟨⟨h.bd.seq,h.bd.clock,hl,fun r hr=>h.bd.ops r (hc r hr),h.bd.out,h.bd.id⟩,fun r hr=>h.hrd r (hc r hr),fun r hr=>h.sent r (hs r hr),h.m,h.cur,h.db,h.co,h.wts,h.num,h.sets⟩
theorem Sz.same {n m:Nat} {c c':Cl} (h:Sz n c) (s:Same c c') (e:n≤m) (ho:c'.out.length≤m) (hs:∀ r∈c'.reqs,-1≤r.sent∧r.sent≤m):Sz m c':=by
 obtain ⟨o,q,rfl,e1⟩:=s
 have h:=h.mono e
 have hl:q.length=c.reqs.length:=by have:=congrArg List.length e1; simpa using this
 exact ⟨⟨h.bd.seq,h.bd.clock,by show q.length≤m; rw [hl]; exact h.bd.reqs,by show ∀ r∈q.map vS,_; rw [e1]; exact h.bd.ops,ho,h.bd.id⟩,by show ∀ r∈q.map vS,_; rw [e1]; exact h.hrd,hs,h.m,h.cur,h.db,h.co,h.wts,h.num,h.sets⟩
theorem Sz.puts (h:Sz n c) (l:List Msg):Sz (n+l.length) (wW c l):=by
 have h1:=uE l c
 have h2:=putsF_out l c
 refine h.same h1.1 (by omega) (by have:=h.bd.out; omega) ?_
 rw [h1.2]
 intro r hr; have:=h.sent r hr; omega
theorem mem_sent {l:List Rq} {i:Nat} {t:Int} {r:Rq} (h:r∈l.modify i fun r=>{ r with sent:=t }):r∈l∨r.sent=t:=by
 obtain ⟨j,hj⟩:=List.mem_iff_getElem?.1 h
 rw [List.getElem?_modify] at hj
 cases hl:l[j]? with
 | none=>rw [hl] at hj; cases hj
 | some q =>
  rw [hl] at hj
  by_cases hij:i=j
  ·simp [hij] at hj; right; rw [← hj]
  ·simp [hij] at hj; left; rw [← hj]; exact List.mem_iff_getElem?.2 ⟨j,hl⟩
theorem Sz.send (h:Sz n c) (i:Nat):Sz (n+1) (wZ c i):=by
 refine h.same (qN c i) (by omega) (by have:=sendF_out c i; have:=h.bd.out; omega) ?_
 rw [(sendF_sent c i).1]
 intro r hr
 have hc:=h.bd.clock
 rcases mem_sent hr with h1|h1
 ·have:=h.sent r h1; omega
 ·omega
theorem Sz.sends :∀ (l:List Nat) {n:Nat} {c:Cl},Sz n c→Sz (n+l.length) (wP c l)
 | [],n,c,h=>h
 | i::l,n,c,h=>by
  have h1:Sz (n+1) (if dueF c i=true then wZ c i else c):=by
   split
   ·exact h.send i
   ·exact h.mono (by omega)
  have h2:=Sz.sends l h1
  rw [List.length_cons,show n+(l.length+1)=n+1+l.length by omega]
  exact h2
theorem sends_sent :∀ (l:List Nat) {c:Cl} {n:Nat},0≤c.clock→c.clock≤n→(∀ r∈c.reqs,-1≤r.sent∧r.sent≤n)→∀ r∈(wP c l).reqs,-1≤r.sent∧r.sent≤n
 | [],c,n,_,_,h=>h
 | i::l,c,n,h0,h1,h=>by
  show ∀ r∈(wP (if dueF c i=true then wZ c i else c) l).reqs,_
  have hs:=sendF_sent c i
  refine sends_sent l ?_ ?_ ?_
  ·split
   ·rw [hs.2]; exact h0
   ·exact h0
  ·split
   ·rw [hs.2]; exact h1
   ·exact h1
  ·split
   ·rw [hs.1]
    intro r hr
    rcases mem_sent hr with h2|h2
    ·exact h r h2
    ·omega
   ·exact h
theorem Sz.done (h:Sz n c):Sz n (dO c):=by
 have h1:Sz (n+c.reqs.length+5) (vV c):=(h.sends (xA c.reqs)).mono (by have:=firstF_len c.reqs; omega)
 have hc:=h.bd.clock
 have h2:=sends_sent (xA c.reqs) hc.1 hc.2 h.sent
 have hs:=flushF_same c
 have h3:Sz n { vV c with out:=[] }:=by
  have:Same c { vV c with out:=[] }:=by
   obtain ⟨o,q,e,e1⟩:=hs
   rw [e]
   exact ⟨[],q,rfl,e1⟩
  exact h.same this (Nat.le_refl _) (Nat.zero_le _) h2
 exact h3.free
theorem Sz.say (h:Sz n c) (a:Ans):Sz n (sayF c a):=(h.wait (w:=none) trivial).free
theorem Sz.code (h:Sz n c) (e:Int):Sz n (jC c e):=h.say _
theorem Sz.drop (h:Sz n c):Sz n (kR c):=h.rqs (Nat.le_trans (List.length_filter_le _ _) h.bd.reqs) (fun r hr=>(List.mem_filter.1 hr).1)
theorem Sz.ask (h:Sz n c) (hn:n≤100000000) (g:Nat) {o:Opn} (ho:OpSz o) (l:Int) (t:Bool) {hd:Hrd} (hh:HrdSz hd):Sz (n+1) (qJ c g o l t hd):=by
 have h2:=h.mono (Nat.le_succ n)
 refine ⟨h.bd.ask (by omega) g ho l t hd,?_,?_,h2.m,h2.cur,h2.db,h2.co,h2.wts,h2.num,h2.sets⟩
 ·intro r hr
  simp only [qJ,List.map_append,List.mem_append] at hr
  rcases hr with hr|hr
  ·exact h.hrd r hr
  ·obtain ⟨q,hq,rfl⟩:=List.mem_map.1 hr
   rw [List.mem_singleton] at hq; subst hq; exact hh
 ·intro r hr
  simp only [qJ,List.mem_append,List.mem_singleton] at hr
  rcases hr with hr|rfl
  ·exact h2.sent r hr
  ·simp only [reqF]; omega
theorem xB :I64 0:=by unfold I64; omega
theorem i64_2 :I64 2:=by unfold I64; omega
theorem endOp_sz {id v:Int} (h1:I64 id) (h2:I64 v):OpSz (endOp id v):=uP ⟨xB,xB,h1,xB,xB,xB,xB,xB,xB,h2,xB,xB⟩ rfl M M M
theorem Sz.quiets {o:Opn} (ho:OpSz o):∀ (l:List Int) {n:Nat} {c:Cl},Sz n c→n+l.length≤100000000→Sz (n+l.length) (wY c o l)
 | [],n,c,h,_=>h
 | g::l,n,c,h,hn=>by
  rw [List.length_cons] at hn ⊢
  have h1:=h.ask (by omega) g.toNat ho 0 true (hd:=.quiet) trivial
  have h2:=Sz.quiets ho l (c:=quietF c g.toNat o) (n:=n+1) h1 (by omega)
  rw [show n+(l.length+1)=n+1+l.length by omega]
  exact h2
theorem Sz.tidy (h:Sz n c) (hn:n+5≤100000000) {id v:Int} (h1:I64 id) (h2:I64 v) (l:List Int) (hl:l.length≤5):Sz (n+5) (jZ c id l v) :=
 (Sz.quiets (endOp_sz h1 h2) l (h.free (ended:=wC c.ended id v)) (by omega)).mono (by omega)
theorem op0_sz {k:Int}:OpSz (op0 k):=uP (by unfold NumsIn I64; simp [op0]) M M M M
theorem Sz.look (h:Sz n c) (hn:n≤100000000) (l:Int):Sz (n+1) (lookF c l):=h.ask hn 0 op0_sz l true (hd:=.look) trivial
theorem Sz.turn (h:Sz n c) (hn:n≤100000000):Sz (n+1) (wF c):=by
 unfold wF
 split
 ·exact h.mono (by omega)
 ·exact Sz.look (h.free (stale:=true)) hn 0
theorem Sz.turns (h:Sz n c) (hn:n≤100000000) (p:Prop) [Decidable p]:Sz (n+1) (if p then wF c else c):=by
 split
 ·exact h.turn hn
 ·exact h.mono (by omega)
theorem Sz.lost (h:Sz n c) (hn:n+6≤100000000) (hf:xG c) (e:Int):Sz (n+6) (lostF c e):=by
 unfold lostF
 simp only
 have h1:=h.turns (by omega) (e=26)
 have had:gU c (if e=26 then wF c else c):=by split<;>first|exact qM c|exact gU.refl c
 have hf1:=hf.adds had
 generalize (if e=26 then wF c else c)=c1 at h1 hf1
 exact (h1.tidy (by omega) h1.cur.nums.1 i64_2 _ (vF hf1)).free.code _
theorem findR_sz (h:MppSz c.m) (b:Int):I64 (dN c.m.rngs b).1.epoch:=by
 unfold dN
 split
 ·rename_i r hr; exact h.ep r (List.mem_of_find?_eq_some hr)
 ·exact xB
theorem Sz.read (h:Sz n c) (hn:n≤100000000) {b:Int} (hb:I64 b) (l:Int):Sz (n+1) (readF c b l):=by
 have h2:=h.mono (Nat.le_succ n)
 unfold readF
 simp only
 have h3:=h.ask hn (dN c.m.rngs b).1.group.toNat (o:=readOp c (dN c.m.rngs b).1 b) (uP ⟨xB,xB,h.cur.nums.1,h.cur.nums.2.1,findR_sz h.m b,xB,xB,hb,xB,xB,xB,xB⟩ rfl M M M) l false (hd:=.read b) hb
 refine Sz.curs (t:={ c.cur with asked:=c.cur.asked++[(dN c.m.rngs b).1.group] }) h3 ⟨h.cur.nums,h.cur.parts,?_,h2.cur.reads,h.cur.writes⟩
 rw [List.length_append,List.length_singleton]
 have:=h.cur.asked
 omega
theorem Sz.kept (h:Sz n c) (hn:n≤100000000) {x:Cal} (hx:qH x) (l:Int):Sz (n+1) (keptF c x l) :=
 h.ask hn _ (uP ⟨xB,xB,xB,xB,findR_sz h.m x.block,xB,xB,hx.block,hx.snap,xB,xB,xB⟩ rfl M M M) l false (hd:=.kept x) hx
theorem Sz.frz (h:Sz n c) (hn:n≤100000000) {x:Cal} (hx:qH x) {e:Int} (he:I64 e) (l:Int):Sz (n+1) (frzF c x e l) :=
 h.ask hn _ (uP ⟨xB,xB,xB,xB,he,hx.lo,hx.hi,xB,xB,xB,xB,xB⟩ rfl M M M) l false (hd:=.frz x e) ⟨hx,he⟩
theorem Sz.inst (h:Sz n c) (hn:n≤100000000) {x:Cal} (hx:qH x) {e:Int} (he:I64 e) {d:List Bt} (hd:d.length≤1000000):Sz (n+1) (instF c x e d) :=
 h.ask hn _ (o:=⟨6,0,0,0,0,e,x.lo,x.hi,0,0,0,0,0,[],[],[],d⟩) ⟨⟨xB,xB,xB,xB,he,hx.lo,hx.hi,xB,xB,xB,xB,xB⟩,by simp,by simp,by simp,by simp only; omega⟩ 0 false (hd:=.inst x e) ⟨hx,he⟩
theorem Sz.fin (h:Sz n c) (hn:n≤100000000) {x:Cal} (hx:qH x) {e:Int} (he:I64 e):Sz (n+1) (finF c x e) :=
 h.ask hn _ (uP ⟨xB,xB,xB,xB,he,xB,xB,xB,xB,xB,xB,xB⟩ rfl M M M) 0 false (hd:=.fin x e) ⟨hx,he⟩
theorem Sz.change (h:Sz n c) (hn:n≤100000000) {x:Cal} (hx:qH x) (l:Int):Sz (n+1) (changeF c x l) :=
 h.ask hn _ (uP ⟨xB,xB,xB,xB,xB,xB,xB,xB,xB,hx.value,xB,hx.node⟩ rfl M M M) l false (hd:=.change x) hx
theorem Sz.part (h:Sz n c) (hn:n≤100000000) {o:Opn} (ho:OpSz o) (g l:Int):Sz (n+1) (partF c o g l):=h.ask hn _ ho l false (hd:=.part o g) ho
theorem prepared_sz {n:Nat} {t:Txn} (h:TxnSz n t) (hn:n≤100000000) {r:Rng} (hr:I64 r.epoch):OpSz (kG t r):=by
 have h1:(kG t r).reads.length≤n:=by
  simp only [kG,uS,List.length_map]
  exact Nat.le_trans (List.length_filter_le _ _) h.reads.1
 have h2:(kG t r).writes.length≤8:=Nat.le_trans (List.length_filter_le _ _) h.writes.1
 refine ⟨?_,by have:=h.parts; simp only [kG]; omega,by omega,by omega,by simp [kG]⟩
 obtain ⟨a,b,d,e⟩:=h.nums
 simp only [kG,NumsIn]
 split
 ·exact ⟨xB,xB,a,b,hr,d,e,xB,a,xB,xB,xB⟩
 ·exact ⟨xB,xB,a,b,hr,xB,xB,xB,xB,xB,xB,xB⟩
theorem Sz.parts {n0:Nat} {t:Txn} (ht:TxnSz n0 t) (hn0:n0≤100000000):∀ (l:List Rng) {n:Nat} {c:Cl},(∀ r∈l,I64 r.epoch)→Sz n c→n+l.length≤100000000→Sz (n+l.length) (dG t l c)
 | [],n,c,_,h,_=>h
 | r::l,n,c,hl,h,hn=>by
  rw [List.length_cons] at hn ⊢
  have h1:=h.part (by omega) (prepared_sz ht hn0 (hl r (by simp))) r.group 0
  have h2:=Sz.parts ht hn0 l (fun x hx=>hl x (by simp [hx])) h1 (by omega)
  rw [show n+(l.length+1)=n+1+l.length by omega]
  exact h2
theorem prepL_len (c:Cl):(prepL c).length≤c.m.rngs.length:=by
 unfold prepL byGroup
 rw [List.length_mergeSort]
 exact List.length_filter_le _ _
theorem prepL_mem {r:Rng} (h:r∈prepL c):r∈c.m.rngs:=(List.mem_filter.1 (mem_byGroup h)).1
theorem newC_sz {me txn:Int} {parts:List Int} {acc:Int} (h:newOk me txn parts acc=true):CooSz n (newC me txn parts acc):=by
 have:=newOk_parts h
 exact ⟨by simp only [newC]; omega,by simp only [newC]; omega,by simp [newC],by simp [newC],by simp only [newC]; omega⟩
theorem newO_sz (me txn:Int) (parts:List Int) (acc:Int):CoSz n (newO me txn parts acc):=by
 intro k hk
 unfold newO at hk
 split at hk
 ·rename_i h; cases hk; exact newC_sz h
 ·cases hk
theorem Sz.prep (h:Sz n c) (l:List Rng) (hl:l.length≤4):Sz n (prepC c l) :=
 ((h.curs (t:={ c.cur with parts:=l.map fun r:Rng=>r.group }) ⟨h.cur.nums,by simpa using hl,h.cur.asked,h.cur.reads,h.cur.writes⟩).coos (k:=newO c.addr c.cur.id (l.map fun r:Rng=>r.group) c.accs) (newO_sz _ _ _ _)).free
theorem Sz.prepare (h:Sz n c) (hn:n+4≤100000000):Sz (n+4) (gE c):=by
 have hl:=prepL_len c
 have hm:=h.m.len
 have h1:=h.prep (prepL c) (by omega)
 exact (Sz.parts h1.cur (by omega) (prepL c) (fun r hr=>h.m.ep r (prepL_mem hr)) h1 (by omega)).mono (by omega)
theorem Sz.close (h:Sz n c) (e:Int):Sz n (uM c e):=by
 unfold uM
 split
 ·exact h.say _
 ·exact (h.free (opn:=false)).say _
theorem startL_len {k:Coo} (h:CooSz n k) (m:Int):(startL k m).length≤28:=by
 have h1:=startG_len k.me k.txn m k.chosen k.acc.toNat (by have:=h.acc; omega) k.parts
 have h2:=h.parts
 have:startL k m=startG k.me k.txn m k.chosen k.acc.toNat k.parts:=rfl
 rw [this]; omega
theorem startC_sz {k:Coo} (h:CooSz n k) (m:Int):CooSz n (startC k m):=⟨h.parts,h.acc,h.accepted,by simp [startC],h.top⟩
theorem Sz.start (h:Sz n c):Sz (n+29) (wM c):=by
 unfold wM
 split
 ·exact h.mono (by omega)
 ·rename_i k hk
  have hK:=h.co k hk
  have hc:=h.bd.clock
  have htop:=hK.top
  have hr:=h.num.1
  have h2:=h.mono (Nat.le_succ n)
  have hll:=startL_len hK (ballotF (max c.round (k.top / 1048576)+1) c.addr)
  have e1:0≤max c.round (k.top / 1048576)+1∧max c.round (k.top / 1048576)+1≤9000000000000+((n+1:Nat):Int):=by omega
  have e2:0≤c.clock∧c.clock≤((n+1:Nat):Int):=by omega
  have h3:Sz (n+1) { c with started:=c.clock,round:=max c.round (k.top / 1048576)+1,coord:=some (startC k (ballotF (max c.round (k.top / 1048576)+1) c.addr)) } :=
   ⟨⟨h2.bd.seq,h2.bd.clock,h2.bd.reqs,h2.bd.ops,h2.bd.out,h2.bd.id⟩,h2.hrd,h2.sent,h2.m,h2.cur,h2.db,(fun k' e=>by cases e; exact (startC_sz hK _).mono (by omega)),h2.wts,⟨e1,e2,h2.num.2.2⟩,h2.sets⟩
  exact (h3.puts _).mono (by omega)
theorem Sz.resolve (h:Sz n c) (d:Dbt):Sz (n+29) (vJ c d):=(Sz.start ((h.coos (newO_sz c.addr d.id d.parts c.accs)).free (about:=d.id)))
theorem Sz.clear (h:Sz n c):Sz n (kE c):=(h.drop).coos (fun k e=>by cases e)
theorem Sz.solved (h:Sz n c) (hn:n+5≤100000000) (d:Dbt) (hd:d.groups.length≤5) (hi:I64 d.id) {v:Int} (hv:I64 v):Sz (n+5) (uJ c d v) :=
 (h.dbts (l:=c.doubts.filter fun x=>decide (x.id≠d.id)) ⟨Nat.le_trans (List.length_filter_le _ _) h.db.1,fun x hx=>h.db.2 x (List.mem_filter.1 hx).1⟩).tidy hn hi hv _ hd
theorem Sz.next (h:Sz n c) (v:Int):Sz (n+29) (nextF c v):=by
 unfold nextF
 split
 ·exact (h.code _).mono (by omega)
 ·split
  ·exact (h.code _).mono (by omega)
  ·exact h.resolve _
theorem doubtF_sz (h:Sz n c) (hf:xG c):(gN c).groups.length≤5∧I64 (gN c).id:=by
 unfold gN
 cases hd:c.doubts.find? (fun d=>decide (d.id=c.about)) with
 | none=>exact ⟨by simp [noD],xB⟩
 | some d =>
  have hm:=List.mem_of_find?_eq_some hd
  have h1:=newOk_parts (hf.doubts d hm).2
  exact ⟨h.db.2 d hm,by show I64 d.id; unfold I64; omega⟩
theorem Sz.come (h:Sz n c) (hn:n+34≤100000000) (hf:xG c) {v:Int} (hv:I64 v):Sz (n+34) (bM c v):=by
 unfold bM
 split
 ·exact ((h.clear.tidy (by omega) h.cur.nums.1 hv _ (vF hf)).close _).mono (by omega)
 ·have hd:=doubtF_sz h hf
  exact ((h.clear.solved (by omega) (gN c) hd.1 hd.2 hv).next v)
theorem Sz.runs (h:Sz n c) (hn:n+4≤100000000) {w:Wts} (hw:WtsSz (some w)):Sz (n+4) (runW c w):=by
 cases w with
 | read x=>exact (h.read (by omega) hw.block 0).mono (by omega)
 | prep=>exact h.prepare hn
 | snap=>exact h.prepare hn
 | kept x=>exact (h.kept (by omega) hw 0).mono (by omega)
 | again x=>exact (h.kept (by omega) hw 0).mono (by omega)
theorem Sz.mapped (h:Sz n c) (hn:n+4≤100000000) {w:Wts} (hw:WtsSz (some w)):Sz (n+4) (vE c w):=by
 unfold vE
 split
 ·exact (h.wait hw).mono (by omega)
 ·exact h.runs hn hw
theorem Sz.learn (h:Sz n c) (b:List Bt):Sz n (jS c b):=by
 unfold jS
 split
 ·exact h.maps (getMap_sz b)
 ·exact h
theorem Sz.go (h:Sz n c) (hn:n+4≤100000000):Sz (n+4) (goF c):=by
 unfold goF
 split
 ·exact h.mono (by omega)
 ·rename_i w hw
  exact (h.wait (w:=none) trivial).runs hn (by rw [← hw]; exact h.wts)
theorem Sz.heard (h:Sz n c) (hn:n+40≤100000000) (hf:xG c) {hd:Hrd} (hh:HrdSz hd) (x:Res) (hx:x.data.length≤1000000):Sz (n+40) (xX c hd x):=by
 cases hd with
 | quiet=>exact h.mono (by omega)
 | look =>
  simp only [xX]
  split
  ·exact (h.look (by omega) 1).mono (by omega)
  ·split
   ·exact ((h.learn x.data).look (by omega) 1).mono (by omega)
   ·exact (((h.learn x.data).free (stale:=false)).go (by omega)).mono (by omega)
 | read b =>
  simp only [xX]
  split
  ·have h2:=h.mono (Nat.le_succ n)
   refine ((h2.curs (t:={ c.cur with reads:=c.cur.reads++[⟨b,x.data⟩] }) ⟨h2.cur.nums,h2.cur.parts,h2.cur.asked,⟨?_,?_⟩,h2.cur.writes⟩).say _).mono (by omega)
   ·rw [List.length_append,List.length_singleton]; have:=h.cur.reads.1; omega
   ·intro r hr
    rcases List.mem_append.1 hr with hr|hr
    ·exact h.cur.reads.2 r hr
    ·rw [List.mem_singleton] at hr; subst hr; exact hx
  ·split
   ·exact (h.read (by omega) hh 1).mono (by omega)
   ·exact (h.lost (by omega) hf _).mono (by omega)
 | part o g =>
  simp only [xX]
  split
  ·exact h.mono (by omega)
  ·split
   ·exact (h.part (by omega) hh g 1).mono (by omega)
   ·have h1:=h.turns (by omega) (x.code=26)
    have had:gU c (if x.code=26 then wF c else c):=by split<;>first|exact qM c|exact gU.refl c
    exact (h1.come (by omega) (hf.adds had) i64_2).mono (by omega)
 | kept y =>
  simp only [xX]
  split
  ·exact (h.kept (by omega) hh 1).mono (by omega)
  ·split
   ·exact ((h.turn (by omega)).mapped (w:=.again y) (by omega) hh).mono (by omega)
   ·exact (h.say _).mono (by omega)
 | plan y =>
  simp only [xX]
  split
  ·exact (h.code _).mono (by omega)
  ·exact (h.frz (by omega) hh (getMap_sz x.data).m1 0).mono (by omega)
 | frz y e =>
  simp only [xX]
  split
  ·exact (h.inst (by omega) hh.1 hh.2 hx).mono (by omega)
  ·split
   ·exact (h.frz (by omega) hh.1 hh.2 1).mono (by omega)
   ·exact (h.code _).mono (by omega)
 | inst y e =>
  simp only [xX]
  split
  ·exact (h.code _).mono (by omega)
  ·exact (h.fin (by omega) hh.1 hh.2).mono (by omega)
 | fin y e =>
  simp only [xX]
  split
  ·exact (h.code _).mono (by omega)
  ·exact (((h.learn x.data).ask (by omega) y.src.toNat (o:=⟨7,0,0,0,0,e,0,0,0,0,0,0,0,[],[],[],[]⟩) (uP ⟨xB,xB,xB,xB,hh.2,xB,xB,xB,xB,xB,xB,xB⟩ rfl M M M) 0 true (hd:=.quiet) trivial).code 0).mono (by omega)
 | change y =>
  simp only [xX]
  split
  ·exact (h.change (by omega) hh 1).mono (by omega)
  ·exact (h.code _).mono (by omega)
theorem Sz.opened (h:Sz n c) (hn:n≤100000000) (ht:c.txns<1048575):Sz n (kW c):=by
 have hi:=h.bd.id
 have hck:=h.bd.clock
 have htx:=h.num.2.2.2.1
 refine ⟨⟨h.bd.seq,h.bd.clock,h.bd.reqs,h.bd.ops,h.bd.out,h.bd.id⟩,h.hrd,h.sent,h.m,⟨⟨?_,?_,xB,xB⟩,by simp [kW,noT],by simp [kW,noT],⟨by simp [kW,noT],by simp [kW,noT]⟩,⟨by simp [kW,noT],by simp [kW,noT],List.Pairwise.nil⟩⟩,h.db,h.co,h.wts,⟨h.num.1,h.num.2.1,h.num.2.2.1,?_,h.num.2.2.2.2⟩,h.sets⟩
 ·simp only [kW]; unfold I64; omega
 ·simp only [kW]; unfold I64; omega
 ·simp only [kW]; omega
theorem setW_len (l:List Wr) (m:Int) (d:List Bt):(setW l m d).length≤l.length+1∧(l.any (isW m)=true→(setW l m d).length≤l.length)∧∀ w∈setW l m d,w∈l∨w.data=d:=by
 have h1:(l.filter (fun x=>decide (x.block<m))).length+(l.filter (fun x=>decide (m<x.block))).length≤l.length∧(l.any (isW m)=true→(l.filter (fun x=>decide (x.block<m))).length+(l.filter (fun x=>decide (m<x.block))).length+1≤l.length):=by
  induction l with
  | nil=>simp
  | cons x l ih =>
   obtain ⟨i1,i2⟩:=ih
   rcases Int.lt_trichotomy x.block m with h|h|h
   ·have h':¬ m<x.block:=by omega
    have h'':¬ x.block=m:=by omega
    simp only [List.filter_cons,h,h',decide_true,decide_false,if_true,Bool.false_eq_true,if_false,List.length_cons,List.any_cons,isW,h'',Bool.false_or]
    exact ⟨by omega,fun e=>by have:=i2 e; omega⟩
   ·have h':¬ m<x.block:=by omega
    have h'':¬ x.block<m:=by omega
    simp only [List.filter_cons,h',h'',decide_false,Bool.false_eq_true,if_false,List.length_cons]
    exact ⟨by omega,fun e=>by omega⟩
   ·have h':¬ x.block<m:=by omega
    have h'':¬ x.block=m:=by omega
    simp only [List.filter_cons,h,h',decide_true,decide_false,if_true,Bool.false_eq_true,if_false,List.length_cons,List.any_cons,isW,h'',Bool.false_or]
    exact ⟨by omega,fun e=>by have:=i2 e; omega⟩
 refine ⟨?_,fun e=>?_,fun w hw=>?_⟩
 ·unfold setW; rw [List.length_append,List.length_cons]; omega
 ·unfold setW; rw [List.length_append,List.length_cons]; have:=h1.2 e; omega
 ·unfold setW at hw
  rcases List.mem_append.1 hw with h|h
  ·exact .inl (List.mem_filter.1 h).1
  ·rcases List.mem_cons.1 h with h|h
   ·right; rw [h]
   ·exact .inl (List.mem_filter.1 h).1
theorem writeF_sz {l:List Wr} (hl:l.length≤8) (hw:∀ w∈l,w.data.length≤1000000) (hr:RisesW l) (m:Int) (d:List Bt):(dU l m d).1.length≤8∧(∀ w∈(dU l m d).1,w.data.length≤1000000)∧RisesW (dU l m d).1:=by
 unfold dU
 split
 ·exact ⟨hl,hw,hr⟩
 ·split
  ·exact ⟨hl,hw,hr⟩
  ·rename_i hd
   split
   ·exact ⟨hl,hw,hr⟩
   ·rename_i hx
    obtain ⟨h1,h2,h3⟩:=setW_len l m d
    refine ⟨?_,fun w hm=>?_,setW_rises hr m d⟩
    ·by_cases ha:l.any (isW m)=true
     ·exact Nat.le_trans (h2 ha) hl
     ·simp only [Bool.not_eq_true] at ha
      have:¬ 8≤l.length:=fun h=>hx ⟨ha,h⟩
      simp only; omega
    ·rcases h3 w hm with h|h
     ·exact hw w h
     ·rw [h]; omega
theorem Sz.does (h:Sz n c) (hn:n+40≤100000000) (hf:xG c) {x:Cal} (hx:qH x) (d:List Bt):Sz (n+40) (vZ c x d):=by
 unfold vZ
 split
 ·unfold beginF
  split
  ·exact (h.code _).mono (by omega)
  ·split
   ·exact (h.code _).mono (by omega)
   ·exact (((h.opened (by omega) (by omega)).free (opn:=true)).say _).mono (by omega)
 split
 ·unfold vA
  split
  ·exact (h.code _).mono (by omega)
  ·split
   ·exact (h.code _).mono (by omega)
   ·split
    ·exact (h.say _).mono (by omega)
    ·split
     ·exact (h.say _).mono (by omega)
     ·split
      ·exact (h.code _).mono (by omega)
      ·exact (h.mapped (w:=.read x) (by omega) hx).mono (by omega)
 split
 ·unfold qQ
  split
  ·exact (h.code _).mono (by omega)
  ·exact ((h.curs (t:={ c.cur with writes:=(dU c.cur.writes x.block d).1 }) ⟨h.cur.nums,h.cur.parts,h.cur.asked,h.cur.reads,writeF_sz h.cur.writes.1 h.cur.writes.2.1 h.cur.writes.2.2 _ _⟩).code _).mono (by omega)
 split
 ·unfold commitF
  split
  ·exact (h.code _).mono (by omega)
  ·split
   ·exact ((h.free (opn:=false)).code _).mono (by omega)
   ·exact (h.mapped (w:=.prep) (by omega) trivial).mono (by omega)
 split
 ·unfold abortF
  split
  ·exact (h.code _).mono (by omega)
  ·exact (((h.tidy (by omega) h.cur.nums.1 i64_2 _ (vF hf)).free (opn:=false)).code _).mono (by omega)
 split
 ·unfold qS
  split
  ·exact (h.code _).mono (by omega)
  ·split
   ·exact (h.code _).mono (by omega)
   ·exact (h.resolve _).mono (by omega)
 split
 ·unfold snapshotF
  split
  ·exact (h.code _).mono (by omega)
  ·split
   ·exact (h.code _).mono (by omega)
   ·split
    ·exact (h.code _).mono (by omega)
    ·rename_i hs ht
     simp only
     have h1:=h.opened (by omega) (by omega)
     have hsp:I64 (c.sets.getD (x.set - 1).toNat ⟨0,0⟩).lo∧I64 (c.sets.getD (x.set - 1).toNat ⟨0,0⟩).hi:=by
      rw [List.getD_eq_getElem?_getD]
      cases he:c.sets[(x.set - 1).toNat]? with
      | none=>exact ⟨xB,xB⟩
      | some s=>exact h.sets.2 s (List.mem_iff_getElem?.2 ⟨_,he⟩)
     exact (((h1.curs (t:={ (kW c).cur with slo:=(c.sets.getD (x.set - 1).toNat ⟨0,0⟩).lo,shi:=(c.sets.getD (x.set - 1).toNat ⟨0,0⟩).hi }) ⟨⟨h1.cur.nums.1,h1.cur.nums.2.1,hsp.1,hsp.2⟩,h1.cur.parts,h1.cur.asked,h1.cur.reads,h1.cur.writes⟩).free (own:=true)).mapped (w:=.snap) (by omega) trivial).mono (by omega)
 split
 ·unfold readSnapF
  split
  ·exact (h.code _).mono (by omega)
  ·split
   ·exact (h.code _).mono (by omega)
   ·exact (h.mapped (w:=.kept x) (by omega) hx).mono (by omega)
 split
 ·unfold dR
  split
  ·exact (h.code _).mono (by omega)
  ·split
   ·exact (h.code _).mono (by omega)
   ·exact (h.resolve _).mono (by omega)
 split
 ·unfold moveF
  split
  ·exact (h.code _).mono (by omega)
  ·split
   ·exact (h.code _).mono (by omega)
   ·split
    ·exact (h.code _).mono (by omega)
    ·exact (h.ask (by omega) 0 (o:=planOp x) (uP ⟨xB,xB,xB,xB,xB,hx.lo,hx.hi,xB,xB,xB,hx.src,hx.dst⟩ rfl M M M) 0 false (hd:=.plan x) hx).mono (by omega)
 ·unfold memberF
  split
  ·exact (h.code _).mono (by omega)
  ·split
   ·exact (h.code _).mono (by omega)
   ·split
    ·exact (h.code _).mono (by omega)
    ·exact (h.change (by omega) hx 0).mono (by omega)
theorem Sz.begun (h:Sz n c) (k:Int):Sz n { c with busy:=true,kind:=k,since:=c.clock }:=by
 have hc:=h.bd.clock
 exact ⟨⟨h.bd.seq,h.bd.clock,h.bd.reqs,h.bd.ops,h.bd.out,h.bd.id⟩,h.hrd,h.sent,h.m,h.cur,h.db,h.co,h.wts,⟨h.num.1,h.num.2.1,hc,h.num.2.2.2⟩,h.sets⟩
theorem Sz.call (h:Sz n c) (hn:n+100≤100000000) (hf:xG c) {x:Cal} (hx:qH x) (d:List Bt):Sz (n+100) (wG c x d).1:=by
 unfold wG
 split
 ·exact h.mono (by omega)
 ·split
  ·exact h.mono (by omega)
  ·exact ((((h.begun x.kind).does (by omega) ⟨hf.guess,hf.reqs,hf.rngs,hf.parts,hf.asked,hf.doubts,hf.coord,hf.nmem⟩ hx d)).done).mono (by omega)
theorem guessAt_sz (h:Sz n c) (g:Nat):0≤vO c g∧vO c g≤1000:=by
 unfold vO
 rw [List.getD_eq_getElem?_getD]
 cases he:c.guess[g]? with
 | none=>simp
 | some s=>exact h.num.2.2.2.2.2 s (List.mem_iff_getElem?.2 ⟨_,he⟩)
theorem Sz.guess1 (h:Sz n c) (g:Nat) {v:Int} (hv:0≤v∧v≤1000):Sz n (vQ c g v):=by
 refine h.guessed ?_
 intro x hx
 rcases List.mem_or_eq_of_mem_set hx with hx|rfl
 ·exact h.num.2.2.2.2.2 x hx
 ·exact hv
theorem Sz.again (h:Sz n c) (i:Nat):Sz (n+1) (kO c i):=by
 unfold kO
 split
 ·exact h.mono (by omega)
 ·split
  ·refine (h.guess1 _ ?_).send i
   have h1:=h.num.2.2.2.2.1
   have h2:=Int.emod_nonneg (vO c (by assumption:Rq).group) (b:=c.nodes) (by omega)
   have h3:=Int.emod_lt_of_pos (vO c (by assumption:Rq).group) (b:=c.nodes) (by omega)
   omega
  ·exact h.mono (by omega)
theorem Sz.agains :∀ (l:List Nat) {n:Nat} {c:Cl},Sz n c→Sz (n+l.length) (l.foldl kO c)
 | [],n,c,h=>h
 | i::l,n,c,h=>by
  have h2:=Sz.agains l (h.again i)
  rw [List.length_cons,show n+(l.length+1)=n+1+l.length by omega]
  exact h2
theorem dbtF_sz (h:Sz n c) (hf:xG c):DbSz (n+1) (c.doubts++[dbtF c]):=by
 refine ⟨by rw [List.length_append,List.length_singleton]; have:=h.db.1; omega,fun d hd=>?_⟩
 rcases List.mem_append.1 hd with hd|hd
 ·exact h.db.2 d hd
 ·rw [List.mem_singleton] at hd; subst hd; exact vF hf
theorem Sz.over (h:Sz n c) (hn:n+10≤100000000) (hf:xG c):Sz (n+10) (qF c):=by
 unfold qF
 split
 ·split
  ·exact ((((h.clear.mono (Nat.le_succ n)).dbts (l:=c.doubts++[dbtF c]) (dbtF_sz h hf)).free (own:=true)).close _).mono (by omega)
  ·exact ((((h.clear).tidy (by omega) h.cur.nums.1 i64_2 _ (vF hf)).free (own:=true)).close _).mono (by omega)
 ·split
  ·exact (h.clear.lost (by omega) hf.clear 0).mono (by omega)
  ·split
   ·exact (h.clear.code _).mono (by omega)
   ·exact (h.clear.code _).mono (by omega)
theorem Sz.ticked (h:Sz n c):Sz (n+1) (jM c):=by
 have h2:=h.mono (Nat.le_succ n)
 have hc:=h.bd.clock
 exact ⟨⟨h2.bd.seq,by unfold jM; simp only; omega,h2.bd.reqs,h2.bd.ops,h2.bd.out,h2.bd.id⟩,h2.hrd,h2.sent,h2.m,h2.cur,h2.db,h2.co,h2.wts,h2.num,h2.sets⟩
theorem mem_getA {κ α:Type} [DecidableEq κ] {k:κ} {v:α}:∀ {l:List (κ × α)},jU l k=some v→(k,v)∈l
 | [],h=>by cases h
 | (a,u)::l,h=>by
  simp only [jU] at h
  split at h
  ·rename_i e; subst e; cases h; simp
  ·exact List.mem_cons_of_mem _ (mem_getA h)
theorem memUpdA {κ α:Type} [DecidableEq κ] {k:κ} {v:α} {x:κ × α}:∀ {l:List (κ × α)},x∈wC l k v→x∈l∨x=(k,v)
 | [],h=>by simp [wC] at h; exact .inr h
 | (a,u)::l,h=>by
  simp only [wC] at h
  split at h
  ·rcases List.mem_cons.1 h with h|h
   ·exact .inr h
   ·exact .inl (List.mem_cons_of_mem _ h)
  ·rcases List.mem_cons.1 h with h|h
   ·exact .inl (by rw [h]; simp)
   ·rcases memUpdA h with h|h
    ·exact .inl (List.mem_cons_of_mem _ h)
    ·exact .inr h
theorem getA_len {κ α:Type} [DecidableEq κ] {l:List (κ × List α)} {n:Nat} (h:∀ x∈l,x.2.length≤n) (k:κ):((jU l k).getD []).length≤n:=by
 cases hg:jU l k with
 | none=>simp
 | some v=>exact h _ (mem_getA hg)
theorem accC_sz {k:Coo} (h:CooSz n k) (m:Msg):CooSz (n+1) (accC k m):=by
 have h2:=h.mono (Nat.le_succ n)
 have hi:∀ x∈wC k.accepted (m.part,m.ballot,m.value) (wC ((jU k.accepted (m.part,m.ballot,m.value)).getD []) m.src 1),x.2.length≤n+1:=by
  intro x hx
  rcases memUpdA hx with hx|rfl
  ·exact h2.accepted x hx
  ·have h3:=getA_len h.accepted (m.part,m.ballot,m.value)
   have h4:=updA_length ((jU k.accepted (m.part,m.ballot,m.value)).getD []) m.src 1
   simp only; omega
 unfold accC
 split
 ·exact h2
 ·simp only
  split
  ·exact ⟨h2.parts,h2.acc,hi,h2.promised,h2.top⟩
  ·exact ⟨h2.parts,h2.acc,hi,h2.promised,h2.top⟩
theorem promC_sz {k:Coo} (h:CooSz n k) (m:Msg):CooSz (n+1) (bF k m).1∧(bF k m).2.length≤7∧∀ x∈(bF k m).2,x.entries=[]∧x.data=[]:=by
 have h2:=h.mono (Nat.le_succ n)
 have hl:∀ x∈wC k.promised m.part ((jU k.promised m.part).getD []++[⟨m.src,m.index,m.value⟩]),x.2.length≤n+1:=by
  intro x hx
  rcases memUpdA hx with hx|rfl
  ·exact h2.promised x hx
  ·have h3:=getA_len h.promised m.part
   simp only [List.length_append,List.length_singleton]; omega
 unfold bF
 split
 ·exact ⟨h2,by simp,by simp⟩
 ·simp only
  split
  ·exact ⟨h2,by simp,by simp⟩
  ·split
   ·exact ⟨⟨h2.parts,h2.acc,h2.accepted,hl,h2.top⟩,by simp,by simp⟩
   ·refine ⟨⟨h2.parts,h2.acc,h2.accepted,hl,h2.top⟩,by have:=h.acc; simp [allF]; omega,?_⟩
    intro x hx
    unfold allF at hx
    obtain ⟨i,_,rfl⟩:=List.mem_map.1 hx
    exact ⟨rfl,rfl⟩
theorem stepC_sz {k:Coo} (h:CooSz n k) (m:Msg) (hm:I64 m.index):CooSz (n+1) (kX k m).1∧(kX k m).2.length≤7∧∀ x∈(kX k m).2,x.entries=[]∧x.data=[]:=by
 have h2:=h.mono (Nat.le_succ n)
 unfold kX
 split
 ·exact ⟨h2,by simp,by simp⟩
 ·split
  ·exact ⟨h2,by simp,by simp⟩
  ·split
   ·refine ⟨⟨h2.parts,h2.acc,h2.accepted,h2.promised,?_⟩,by simp,by simp⟩
    have:=h2.top
    unfold I64 at hm
    simp only; omega
   ·split
    ·exact ⟨accC_sz h m,by simp,by simp⟩
    ·exact promC_sz h m
theorem Sz.tick (h:Sz n c) (hn:n+100≤100000000) (hf:xG c) (ha:Any c):Sz (n+100) (tickF c).1:=by
 have h0:=h.ticked
 have hf0:xG (jM c):=⟨hf.guess,hf.reqs,hf.rngs,hf.parts,hf.asked,hf.doubts,hf.coord,hf.nmem.1,by have:=hf.nmem.2; unfold jM; simp only; omega⟩
 have ha0:Any (jM c):=ha
 have h5:=firstF_five (l:=c.reqs) (fun r hr=>(hf.reqs (vS r) (List.mem_map.2 ⟨r,hr,rfl⟩)).1)
 obtain ⟨a1,f1,b1⟩:=again_ok (xA c.reqs) ha0 hf0
 have h1:Sz (n+6) ((xA c.reqs).foldl kO (jM c)):=(Sz.agains _ h0).mono (by omega)
 unfold tickF
 simp only
 have key:∀ c1:Cl,Any c1→xG c1→Sz (n+6) c1→∀ c2,c2=(if c1.coord.isSome=true∧c1.own=false∧20≤c1.clock - c1.started then wM c1 else c1) →
   ∀ c3,c3=(if c2.busy=true∧60≤c2.clock - c2.since then qF c2 else c2)→Sz (n+100) (dO c3):=by
  rintro c1 ha hf hs c2 rfl c3 rfl
  have h2:∀ c2,c2=(if c1.coord.isSome=true∧c1.own=false∧20≤c1.clock - c1.started then wM c1 else c1)→xG c2∧Sz (n+35) c2:=by
   rintro c2 rfl
   split
   ·rename_i hc
    rcases ha with hw|hr
    ·exact ⟨(gC hw hf hc.1).2,hs.start⟩
    ·rw [hr.2.2.2.2.1] at hc; cases hc.1
   ·exact ⟨hf,hs.mono (by omega)⟩
  have:=h2 _ rfl
  generalize (if c1.coord.isSome=true∧c1.own=false∧20≤c1.clock - c1.started then wM c1 else c1)=c2 at this
  obtain ⟨y,z⟩:=this
  split
  ·exact (z.over (by omega) y).done.mono (by omega)
  ·exact z.done.mono (by omega)
 exact key _ a1 f1 h1 _ rfl _ rfl
theorem Sz.erase (h:Sz n c) (i:Nat):Sz n { c with reqs:=c.reqs.eraseIdx i }:=h.rqs (by have:=h.bd.reqs; rw [List.length_eraseIdx]; split<;>omega) (fun r hr=>List.mem_of_mem_eraseIdx hr)
theorem getRes_len (b:List Bt):(vR b).1.data.length≤b.length:=by
 unfold vR
 split
 ·simp
 ·have h1:∀ (s:RS) (n:Int),(vT s n).length≤s.left.length:=by
   intro s n; unfold vT; split
   ·rw [List.length_take]; omega
   ·simp
  have h2:∀ (s:RS) (n:Int),(takeS s n).left.length≤s.left.length:=by
   intro s n; unfold takeS; split
   ·simp only [List.length_drop]; omega
   ·simp
  exact Nat.le_trans (h1 _ _) (Nat.le_trans (h2 _ _) (h2 _ _))
theorem Sz.told (h:Sz n c) (hn:n+50≤100000000) (hf:xG c) (m:Msg) (hs:0≤m.src) (hd:m.data.length≤1000000):Sz (n+50) (toldF c m):=by
 unfold toldF
 split
 ·exact h.mono (by omega)
 ·split
  ·exact h.mono (by omega)
  ·rename_i i _ _ r hr
   split
   ·split
    ·rename_i hm
     have:=h.num.2.2.2.2.1
     exact ((h.guess1 _ (by omega)).send i).mono (by omega)
    ·exact h.mono (by omega)
   ·split
    ·exact h.mono (by omega)
    ·simp only
     have hl:(vR m.data).1.data.length≤1000000:=Nat.le_trans (getRes_len _) hd
     have hmem:r∈c.reqs:=List.mem_iff_getElem?.2 ⟨_,hr⟩
     have hg:Sz n (if m.src≤c.nodes then vQ c r.group m.src else c)∧xG (if m.src≤c.nodes then vQ c r.group m.src else c)∧(if m.src≤c.nodes then vQ c r.group m.src else c).reqs=c.reqs:=by
      split
      ·have:=h.num.2.2.2.2.1
       exact ⟨h.guess1 _ (by omega),hf.guessed _ _,rfl⟩
      ·exact ⟨h,hf,rfl⟩
     generalize (if m.src≤c.nodes then vQ c r.group m.src else c)=c1 at hg
     obtain ⟨g1,g2,g3⟩:=hg
     refine ((g1.erase i).heard (by omega) ?_ (h.hrd (vS r) (List.mem_map.2 ⟨r,hmem,rfl⟩)) _ hl).mono (by omega)
     exact ⟨g2.guess,fun q hq=>by obtain ⟨q',hq',rfl⟩:=List.mem_map.1 hq; exact g2.reqs _ (List.mem_map.2 ⟨q',List.mem_of_mem_eraseIdx hq',rfl⟩),g2.rngs,g2.parts,g2.asked,g2.doubts,g2.coord,g2.nmem⟩
theorem valueC_sz (k:Coo):I64 (valueC k):=by
 have:∀ (ch:List (Int × Int)) (l:List Int) (v:Int),I64 v→I64 (valL ch l v):=by
  intro ch l
  induction l with
  | nil=>exact fun v h=>h
  | cons p l ih =>
   intro v h
   simp only [valL]
   split
   ·exact i64_2
   ·refine ih _ ?_
    split
    ·exact xB
    ·exact h
 exact this _ _ _ (by unfold I64; omega)
theorem Sz.step (h:Sz n c) (hn:n+50≤100000000) (hf:xG c) (m:Msg) (hm:I64 m.index):Sz (n+50) (stepF c m):=by
 unfold stepF
 split
 ·exact h.mono (by omega)
 ·rename_i k hk
  simp only
  obtain ⟨s1,s2,s3⟩:=stepC_sz (h.co k hk) m hm
  have h1:Sz (n+1) { c with coord:=some (kX k m).1 }:=(h.mono (Nat.le_succ n)).coos (fun k' e=>by cases e; exact s1)
  have h2:Sz (n+8) (wW { c with coord:=some (kX k m).1 } (kX k m).2):=(h1.puts _).mono (by omega)
  have hf1:xG { c with coord:=some (kX k m).1 }:=⟨hf.guess,hf.reqs,hf.rngs,hf.parts,hf.asked,hf.doubts,fun _ e=>hf.coord (by rw [hk]; rfl) e,hf.nmem⟩
  have hf2:=hf1.same (uE (kX k m).2 { c with coord:=some (kX k m).1 }).1
  split
  ·exact (h2.come (by omega) hf2 (valueC_sz _)).mono (by omega)
  ·exact h2.mono (by omega)
theorem Sz.take (h:Sz n c) (hn:n+100≤100000000) (hf:xG c) (src dst:Int) (b:List Bt) (hm:(kH b).2=0→((kH b).1.kind=9∨(kH b).1.kind=11→I64 (kH b).1.index)∧0≤(kH b).1.src∧(kH b).1.data.length≤1000000):Sz (n+100) (dL c src dst b).1:=by
 unfold dL
 simp only
 split
 ·exact h.mono (by omega)
 ·rename_i hc
  simp only [not_or,ne_eq,Decidable.not_not] at hc
  obtain ⟨m1,m2,m3⟩:=hm hc.2.1
  split
  ·exact (h.told (by omega) hf _ m2 m3).done.mono (by omega)
  ·split
   ·rename_i hk
    exact (h.step (by omega) hf _ (m1 hk.2.2)).done.mono (by omega)
   ·exact h.done.mono (by omega)
end
section
variable {P:Program} {g:Env}
theorem run_eqm {t:TypeId} {kt e:TypeId} (h:P.underlying t=some (.map kt e)) (d:Nat) (w:World) {v:Value} {r:Bool} (hv:(v=.map none∧r=true)∨((∃ b,v=.map (some b))∧r=false)):(Op.equalIn (d+1) t v (.map none)).run P w=.ok r w:=by
 rcases hv with ⟨rfl,rfl⟩|⟨⟨b,rfl⟩,rfl⟩<;>simp [Op.equalIn,run_underlying h]
theorem run_eqlm {t:TypeId} {kt e:TypeId} (h:P.underlying t=some (.map kt e)) (w:World) {v:Value} {r:Bool} (hv:(v=.map none∧r=true)∨((∃ b,v=.map (some b))∧r=false)):(binOp .eql t v (.map none)).run P w=.ok (.bool r) w:=by
 have h1:(Op.equal t v (.map none)).run P w=.ok r w:=run_eqm h 9999 w hv
 rcases hv with ⟨rfl,rfl⟩|⟨⟨b,rfl⟩,rfl⟩<;>(simp only [binOp]; simp [h1])
theorem pv_eql_nilmap {t ty:TypeId} {kt e:TypeId} [hu:Und P t (.map kt e)] {x y:Operand} {v:Value} {r:Bool} (hx:ev g x=some v) (hy:ev g y=some (.map none))
  (hv:(v=.map none∧r=true)∨((∃ b,v=.map (some b))∧r=false)):PV P g (.binOp .eql t x y ty) (.bool r):=by
 intro o a w m ho ha; unfold execOp
 have h2:=run_eqlm (w:=w) hu.out hv
 have h3:(eqGuard .eql t x y v (.map none)).run P w=.ok () w:=by
  rcases hv with ⟨rfl,rfl⟩|⟨⟨b,rfl⟩,rfl⟩<;>(unfold eqGuard; split<;>simp_all)
 simp only [ho,ha.ev hx,ha.ev hy,Sem.run_bind,h3,Result.andThen_ok,h2,Sem.run_pure]
end
end Sl
end Go.Proofs.YtfahijncpmlhjaaGreat
