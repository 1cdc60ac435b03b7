/-
  What clientCommits.proved hangs on, part 6 of 7: ClWcc, ClWdd, ClWx, ClWy, ClWz, ClXb, FltM, ClWna, ClXw, ClXc, ClIm, ClRt, ClOr.
-/
import Derived.Test.YtfahijncpmlhjaaGreatCm5
import Derived.Test.YtfahijncpmlhjaaGreatCm2
import Derived.Test.YtfahijncpmlhjaaGreatCm3
import Derived.Test.YtfahijncpmlhjaaGreatCm4
set_option linter.unusedVariables false
set_option linter.unusedSimpArgs false
namespace Go.Proofs.YtfahijncpmlhjaaGreat
open Go Go.RowKit
namespace Sl
set_option maxHeartbeats 4000000
set_option maxRecDepth 4000
set_option synthInstance.maxHeartbeats 400000
set_option synthInstance.maxSize 100000
attribute [local irreducible] xY yW xC
theorem find_idx {α:Type} (p:α→Bool) (l:List α):(qG p l=-1∧l.find? p=none)∨∃ (k:Nat) (hk:k<l.length),qG p l=k∧l.find? p=some l[k]:=by
 rcases uF p l with ⟨h1,h2⟩|⟨k,hk,h1,h2,h3⟩
 ·exact .inl ⟨h1,List.find?_eq_none.2 (fun x hx=>by rw [h2 x hx]; simp)⟩
 ·exact .inr ⟨k,hk,h1,find_hit hk h2 h3⟩
section
variable {c:Cl} {x:Cal}
theorem reading_shut (h:c.opn=false):vA c x=jC c 22:=by unfold vA; rw [if_pos h]
theorem reading_off (h:c.opn=true) (hd:¬ (0≤x.block∧x.block<64)):vA c x=jC c 20:=by unfold vA; rw [if_neg (by rw [h]; simp),if_pos hd]
theorem reading_w (h:c.opn=true) (hd:0≤x.block∧x.block<64) {w:Wr} (hw:c.cur.writes.find? (isW x.block)=some w):vA c x=sayF c ⟨0,0,w.data⟩:=by
 unfold vA; rw [if_neg (by rw [h]; simp),if_neg (fun k=>k hd),hw]
theorem reading_r (h:c.opn=true) (hd:0≤x.block∧x.block<64) (hw:c.cur.writes.find? (isW x.block)=none) {r:Bof} (hr:c.cur.reads.find? (isBof x.block)=some r):vA c x=sayF c ⟨0,0,r.data⟩:=by
 unfold vA; rw [if_neg (by rw [h]; simp),if_neg (fun k=>k hd),hw,hr]
theorem reading_many (h:c.opn=true) (hd:0≤x.block∧x.block<64) (hw:c.cur.writes.find? (isW x.block)=none) (hr:c.cur.reads.find? (isBof x.block)=none) (hl:16≤c.cur.reads.length):vA c x=jC c 17:=by
 unfold vA; rw [if_neg (by rw [h]; simp),if_neg (fun k=>k hd),hw,hr]; simp only [if_pos hl]
theorem reading_map (h:c.opn=true) (hd:0≤x.block∧x.block<64) (hw:c.cur.writes.find? (isW x.block)=none) (hr:c.cur.reads.find? (isBof x.block)=none) (hl:¬ 16≤c.cur.reads.length):vA c x=vE c (.read x):=by
 unfold vA; rw [if_neg (by rw [h]; simp),if_neg (fun k=>k hd),hw,hr]; simp only [if_neg hl]
theorem writing_shut {d:List Bt} (h:c.opn=false):qQ c x d=jC c 22:=by unfold qQ; rw [if_pos h]
theorem writing_to {d:List Bt} (h:c.opn=true) {l:List Wr} {e:Int} (hw:dU c.cur.writes x.block d=(l,e)):qQ c x d=jC { c with cur:={ c.cur with writes:=l } } e:=by unfold qQ; rw [if_neg (by rw [h]; simp),hw]
end
section
variable (w0:World) (X:Hp) (b tb:Nat) (c:Cl) (S:Hp) (n:Nat)
variable (x:Cal) (dv:Value)
theorem readB_spec (r:Bof) (a:Option Addr) (cp bx:Nat) (h1:At w0 X bx 0 (xW x dv)) :
  yO Tryz.prog w0 143 [.agg [.int .i64 r.block,.slice a r.data.length cp].toArray,pB bx] X (fun v h'=>v=.bool (isBof x.block r)∧X=h'):=by
 refine zN Tryz.func143 M Tryz.ntmps143 Tryz.results143 M fun fr=>?_
 repeat (first|refine zF ?_|refine zB ?_|refine zE ?_|refine zK M M M ?_|refine zY M M M M M ?_|refine yM M M M M M ?_|refine gO M (by assumption) M M M M ?_|refine xN M (c:=[_,_]) M M M (fun _=>?_))
 refine yG M M (yK M M) ?_
 refine zaE ?_
 exact ⟨[_],X,_,⟨rfl,trivial⟩,⟨rfl,rfl⟩,yJ.out⟩
theorem readW_spec (r:Wr) (a:Option Addr) (cp bx:Nat) (h1:At w0 X bx 0 (xW x dv)) :
  yO Tryz.prog w0 141 [.agg [.int .i64 r.block,.slice a r.data.length cp].toArray,pB bx] X (fun v h'=>v=.bool (isW x.block r)∧X=h'):=by
 refine zN Tryz.func141 M Tryz.ntmps141 Tryz.results141 M fun fr=>?_
 repeat (first|refine zF ?_|refine zB ?_|refine zE ?_|refine zK M M M ?_|refine zY M M M M M ?_|refine yM M M M M M ?_|refine gO M (by assumption) M M M M ?_|refine xN M (c:=[_,_]) M M M (fun _=>?_))
 refine yG M M (yK M M) ?_
 refine zaE ?_
 exact ⟨[_],X,_,⟨rfl,trivial⟩,⟨rfl,rfl⟩,yJ.out⟩
theorem readings_spec (hS:kT w0 X b tb c S) (hZ:Sz n c) (hn:n+100≤100000000) (hF:xG c) :
  yO Tryz.prog w0 71 [pB b,.agg (xW x dv).toArray] (X+S) (fun r h'=>kP w0 X b tb (vA c x) h'):=by
 have hS9:=id hS
 have hml:=hZ.m.len
 have hal:=hZ.cur.asked
 have hrl:=hZ.cur.reads
 have hwl:=hZ.cur.writes
 obtain ⟨⟨vmem,vr0,vsets,vmr,vg,ve,vd,vrq,vop,vow,vw,vco,vou,van⟩,ps,hG,hE,hD,hR,hT,hK,hO,P,rfl⟩:=hS
 have hvp:vop=wK c.opn tb:=P.opn
 refine zN Tryz.func71 M Tryz.ntmps71 Tryz.results71 M fun fr=>?_
 cases hop:c.opn
 ·rw [hop] at hvp
  simp only [wK,cond_false] at hvp
  subst hvp
  rw [reading_shut hop]
  repeat (first|refine zF ?_|refine zB ?_|refine zE ?_|refine zK M M M ?_|refine zY M M M M M ?_|refine yM M M M M M ?_|refine xN M (c:=[_]) M M M (fun _=>?_)|refine xN M (c:=[_,_,_,_,_,_,_,_,_,_,_,_,_]) M M M (fun _=>?_))
  refine yG M M (kZ M M) ?_
  repeat (first|refine zF ?_|refine zB ?_|refine zE ?_|refine yM M M M M M ?_|refine zJ M ?_)
  refine zX M M (zQ M M M) (xL w0 X b tb c _ hS9 22) ?_
  rintro _ _ hA
  refine zbI ?_
  exact ⟨[],_,_,trivial,hA.after,yJ.out⟩
 rw [hop] at hvp
 simp only [wK,cond_true] at hvp
 subst hvp
 have hT2:uL w0 X tb c.cur hT:=P.txn.elim id fun h=>by rw [h.1] at hop; cases hop
 obtain ⟨vr,va,vw',ap,cp,hr,ha,hw,rfl,k1,k2,k3,k4⟩:=id hT2
 obtain ⟨ar,cr,rfl⟩:=k1.shape
 obtain ⟨aw,cw,rfl⟩:=k3.shape
 repeat (first|refine zF ?_|refine zB ?_|refine zE ?_|refine zK M M M ?_|refine zY M M M M M ?_|refine yM M M M M M ?_|refine xN M (c:=[_]) M M M (fun _=>?_)|refine xN M (c:=[_,_,_,_,_,_,_,_,_,_,_,_,_]) M M M (fun _=>?_))
 rename_i b2 b3
 refine yG M M (kZ M M) ?_
 repeat (first|refine zF ?_|refine zB ?_|refine zE ?_|refine zK M M M ?_|refine zY M M M M M ?_|refine yM M M M M M ?_|refine zP ?_|refine zI M ?_|refine uI M M M ?_)
 refine zX M M (zQ M M M) (indexFuncWr_spec w0 (X+hw+pt b3 (.cells (xW x dv).toArray 41 (0,0))) _ c.cur.writes 141 [pB b3] (isW x.block) k3.rd (by omega) (fun Y w e hx he=>by
  obtain ⟨a1,c1,rfl,-⟩:=he
  exact readW_spec w0 _ x dv w a1 c1 b3 jI)) ?_
 rintro _ _ ⟨rfl,rfl⟩
 repeat (first|refine zF ?_|refine zB ?_|refine zE ?_|refine zK M M M ?_|refine zY M M M M M ?_|refine yM M M M M M ?_|refine uI M M M ?_)
 refine zX M M (zQ M M M) (indexFuncBof_spec w0 (X+hr+pt b3 (.cells (xW x dv).toArray 41 (0,0))) _ c.cur.reads 143 [pB b3] (isBof x.block) k1.rd (by omega) (fun Y w e hx he=>by
  obtain ⟨a1,c1,rfl,-⟩:=he
  exact readB_spec w0 _ x dv w a1 c1 b3 jI)) ?_
 rintro _ _ ⟨rfl,rfl⟩
 refine zbX ?_
 refine zX M M (zQ M M M) (inDisk_spec w0 x.block) ?_
 rintro _ _ ⟨rfl,rfl⟩
 by_cases hd:0≤x.block∧x.block<64
 rotate_left
 ·rw [reading_off hop hd,decide_eq_false hd]
  refine yG M M (pv_not M) ?_
  refine zbZ ?_
  refine zX M M (zQ M M M) (xL w0 X b tb c _ hS9 20) ?_
  rintro _ _ hA
  repeat (refine zE ?_)
  exact ⟨[],_,_,trivial,hA.after,yJ.out⟩
 rw [decide_eq_true hd]
 refine yG M M (pv_not M) ?_
 rcases find_idx (isW x.block) c.cur.writes with ⟨i1,i2⟩|⟨k,hk,i1,i2⟩
 rotate_left
 ·rw [reading_w hop hd i2,i1]
  obtain ⟨bk,ok,rfl,e,hre,hat⟩:=OwL.at k3 hk
  obtain ⟨a4,c4,rfl,hrd⟩:=id hre
  have hdl:=hwl.2.1 _ (List.getElem_mem hk)
  clear i2
  generalize c.cur.writes[k]=w at *
  refine zaA ?_
  refine kD M M (kQ M M) (by omega) ?_
  refine zdE ?_
  refine yB [12,14] [0,1,2,3,4,5,6,7,8,9,10,11,12,13,14] (by kernel_rfl) M (by kernel_rfl) (by kernel_rfl) ?_
  refine zcK ?_
  refine xU M M M M (zQ M M M) (cloneBB_spec w0 X _ _ hrd (by omega)) (xF.all _) ?_
  rintro vc _ ⟨hc,hcl,rfl⟩
  obtain ⟨a5,c5,rfl⟩:=hcl.shape
  refine ⟨zka,?_⟩
  repeat (refine yD M M M M (wJ (vs:=[_]) (cells:=[_,_,_]) M M) ?_)
  refine xU M M M M (zQ M M M) (qL w0 (X+hc) b tb c _ (hS9.mono M) ⟨0,0,w.data⟩ a5 c5 (hcl.plainB.rd (X:=0) (R:=X))) (.drop (by kernel_rfl) (.drop (by kernel_rfl) (.drop (by kernel_rfl) (.drop (by kernel_rfl) (.drop (by kernel_rfl) .nil))))) ?_
  rintro _ _ hA
  refine ⟨trivial,?_⟩
  repeat (refine yI ?_)
  skip
  exact ⟨[],_,_,trivial,hA.after.trans,yJ.out⟩
 rw [i1]
 refine zaA ?_
 refine yP M M (kQ M M) (by decide) ?_
 rcases find_idx (isBof x.block) c.cur.reads with ⟨j1,j2⟩|⟨k,hk,j1,j2⟩
 rotate_left
 ·rw [reading_r hop hd i2 j2,j1]
  obtain ⟨bk,ok,rfl,e,hre,hat⟩:=OwL.at k1 hk
  obtain ⟨a4,c4,rfl,hrd⟩:=id hre
  have hdl:=hrl.2 _ (List.getElem_mem hk)
  clear j2
  generalize c.cur.reads[k]=w at *
  refine zaA ?_
  refine kD M M (kQ M M) (by omega) ?_
  refine zdE ?_
  refine yB [12,14] [0,1,2,3,4,5,6,7,8,9,10,11,12,13,14] (by kernel_rfl) M (by kernel_rfl) (by kernel_rfl) ?_
  refine zcK ?_
  refine xU M M M M (zQ M M M) (cloneBB_spec w0 X _ _ hrd (by omega)) (xF.all _) ?_
  rintro vc _ ⟨hc,hcl,rfl⟩
  obtain ⟨a5,c5,rfl⟩:=hcl.shape
  refine ⟨zka,?_⟩
  repeat (refine yD M M M M (wJ (vs:=[_]) (cells:=[_,_,_]) M M) ?_)
  refine xU M M M M (zQ M M M) (qL w0 (X+hc) b tb c _ (hS9.mono M) ⟨0,0,w.data⟩ a5 c5 (hcl.plainB.rd (X:=0) (R:=X))) (.drop (by kernel_rfl) (.drop (by kernel_rfl) (.drop (by kernel_rfl) (.drop (by kernel_rfl) (.drop (by kernel_rfl) .nil))))) ?_
  rintro _ _ hA
  refine ⟨trivial,?_⟩
  repeat (refine yI ?_)
  skip
  exact ⟨[],_,_,trivial,hA.after.trans,yJ.out⟩
 rw [j1]
 refine zaA ?_
 refine yP M M (kQ M M) (by decide) ?_
 refine zcB ?_
 refine yF M M (kQ M M) (fun hl=>?_) (fun hl=>?_)
 ·rw [reading_many hop hd i2 j2 (by omega)]
  refine zbZ ?_
  refine zX M M (zQ M M M) (xL w0 X b tb c _ hS9 17) ?_
  rintro _ _ hA
  repeat (refine zE ?_)
  exact ⟨[],_,_,trivial,hA.after,yJ.out⟩
 rw [reading_map hop hd i2 j2 (by omega)]
 repeat (first|refine zB ?_|refine zE ?_|refine zK M M M ?_|refine yM M M M M M ?_|refine zI M ?_|refine uI M M M ?_)
 have hA2:At w0 (X+(pt b2 (.cells [pB b].toArray 24 (0,0))+pt b3 (.cells (xW x dv).toArray 41 (0,0)))) b2 0 [pB b]:=jI
 have hA4:At w0 (X+(pt b2 (.cells [pB b].toArray 24 (0,0))+pt b3 (.cells (xW x dv).toArray 41 (0,0)))) b3 0 (xW x dv):=jI
 have hS3:=hS9.mono (L:=X+(pt b2 (.cells [pB b].toArray 24 (0,0))+pt b3 (.cells (xW x dv).toArray 41 (0,0)))) M
 refine zX M M (zQ M M M) (mapping_spec w0 _ b tb c _ hS3 (.read x) 147 [pB b2,pB b3] ⟨b2,b3,dv,rfl,hA2,hA4⟩ (fun _=>readRun_spec w0 _ b tb c _ n hS3 hZ.bd (by omega) hF (by omega) hop (by omega) x dv b2 b3 hA2 hA4)) ?_
 rintro _ _ hA
 repeat (refine zE ?_)
 exact ⟨[],_,_,trivial,hA.trans,yJ.out⟩
theorem writings_spec (D:Hp) (d:List Bt) (da:Option Addr) (dc:Nat) (hd:RdL w0 D (.slice da d.length dc) d) (hdl:d.length≤1000000000) (hS:kT w0 X b tb c S) (hZ:Sz n c) (hn:n+100≤100000000) (hF:xG c) :
  yO Tryz.prog w0 72 [pB b,.agg (xW x (.slice da d.length dc)).toArray] (X+S+D) (fun r h'=>∃ h1,kP w0 X b tb (qQ c x d) h1∧h1+D=h'):=by
 have hS9:=id hS
 obtain ⟨h8,-,hs⟩:=hZ.cur.writes
 obtain ⟨⟨vmem,vr0,vsets,vmr,vg,ve,vd,vrq,vop,vow,vw,vco,vou,van⟩,ps,hG,hE,hD,hR,hT,hK,hO,P,rfl⟩:=hS
 have hvp:vop=wK c.opn tb:=P.opn
 refine zN Tryz.func72 M Tryz.ntmps72 Tryz.results72 M fun fr=>?_
 cases hop:c.opn
 ·rw [hop] at hvp
  simp only [wK,cond_false] at hvp
  subst hvp
  rw [writing_shut hop]
  repeat (first|refine zF ?_|refine zB ?_|refine zE ?_|refine zK M M M ?_|refine zY M M M M M ?_|refine yM M M M M M ?_|refine xN M (c:=[_,_,_,_,_,_,_,_,_,_,_,_,_]) M M M (fun _=>?_))
  refine yG M M (kZ M M) ?_
  refine zaY ?_
  refine zX M M (zQ M M M) (xL w0 X b tb c _ hS9 22) ?_
  rintro _ _ hA
  refine zbI ?_
  exact ⟨[],_,_,trivial,⟨_,hA.after,rfl⟩,yJ.out⟩
 rw [hop] at hvp
 simp only [wK,cond_true] at hvp
 subst hvp
 have hT2:uL w0 X tb c.cur hT:=P.txn.elim id fun h=>by rw [h.1] at hop; cases hop
 obtain ⟨vr,va,vw',ap,cp,hr,ha,hw,rfl,k1,k2,k3,k4⟩:=id hT2
 generalize hws:c.cur.writes=ws at *
 generalize hnb:x.block=m at *
 obtain ⟨es,hrow,hall⟩:=id k3
 have hes:=hall.length
 have hwl:∀ i,BsAt (fun x:Wr=>decide (x.block - m<0)) ws i→i≤es.length:=fun i hb=>by have:=hb.1; omega
 obtain ⟨af,cf,rfl⟩:=k3.shape
 have hsp:=search_spec w0 (X+hw) ws (.slice af ws.length cf) m k3.rd0 h8 hs
 have fin0:∀ {e:Int},dU ws m d=(ws,e)→qQ c x d=jC c e:=by
  intro e he
  rw [writing_to hop (l:=ws) (e:=e) (by rw [hws,hnb]; exact he),← hws]
 repeat (first|refine zF ?_|refine zB ?_|refine zE ?_|refine zK M M M ?_|refine zY M M M M M ?_|refine yM M M M M M ?_|refine xN M (c:=[_,_,_,_,_,_,_,_,_,_,_,_,_]) M M M (fun _=>?_))
 refine yG M M (kZ M M) ?_
 refine zcZ ?_
 rw [hnb]
 refine zX M M (zQ M M M) hsp ?_
 rintro _ _ ⟨i,rfl,hbs,rfl⟩
 refine zbX ?_
 refine zX M M (zQ M M M) (inDisk_spec w0 m) ?_
 rintro _ _ ⟨rfl,rfl⟩
 by_cases hmd:0≤m∧m<64
 rotate_left
 ·rw [fin0 (e:=20) (by unfold dU; rw [if_pos hmd]),decide_eq_false hmd]
  refine yG M M (pv_not M) ?_
  refine zaU ?_
  refine zX M M (zQ M M M) (xL w0 X b tb c _ hS9 20) ?_
  rintro _ _ hA
  repeat (refine zE ?_)
  exact ⟨[],_,_,trivial,⟨_,hA.after,rfl⟩,yJ.out⟩
 rw [decide_eq_true hmd]
 refine yG M M (pv_not M) ?_
 refine zcB ?_
 refine yF M M (xZ M M) (fun h4=>?_) (fun h4=>?_)
 ·rw [fin0 (e:=21) (by unfold dU; rw [if_neg (fun hx=>hx hmd),if_pos (by omega)])]
  refine zaU ?_
  refine zX M M (zQ M M M) (xL w0 X b tb c _ hS9 21) ?_
  rintro _ _ hA
  repeat (refine zE ?_)
  exact ⟨[],_,_,trivial,⟨_,hA.after,rfl⟩,yJ.out⟩
 have hd4:d.length=4:=by omega
 have hwf:dU ws m d=if ws.any (isW m)=false∧8≤ws.length then (ws,17) else (setW ws m d,0):=by unfold dU; rw [if_neg (fun hx=>hx hmd),if_neg (by omega)]
 refine zaA ?_
 cases hfd:dT (fun x:Wr=>x.block - m) ws i
 ·obtain ⟨hlo,hhi,hno⟩:=bs_missed (key:=Wr.block) hs hbs hfd
  have hany:ws.any (isW m)=false:=by
   rw [List.any_eq_false]; intro x hx hx2
   exact absurd (List.find?_eq_none.1 hno x hx) (by simpa [isW] using hx2)
  refine zcF ?_
  refine yF M M (kQ M M) (fun h9=>?_) (fun h9=>?_)
  ·rw [fin0 (e:=17) (by rw [hwf,if_pos ⟨hany,by omega⟩])]
   refine zaU ?_
   refine zX M M (zQ M M M) (xL w0 X b tb c _ hS9 17) ?_
   rintro _ _ hA
   repeat (refine zE ?_)
   exact ⟨[],_,_,trivial,⟨_,hA.after,rfl⟩,yJ.out⟩
  rw [writing_to hop (l:=setW ws m d) (e:=0) (by rw [hws,hnb,hwf,if_neg (fun hx=>by omega)])]
  refine zcC ?_
  refine dX [4,6,7] [0,1,2,3,4,5,6,7] 6 7 [.int .i64 0,.slice none 0 0] 44 (by kernel_rfl) M (by kernel_rfl) (by kernel_rfl) (by kernel_rfl) ?_
  repeat (first|refine V_pure M (zZ M M M) (fun _=>zZ M M M) M M M M ?_|refine V_load M M (fun _=>rfl) (zG M (zS M)) M M M M ?_)
  refine V_call M M M M M (zQ M M M) (fun _=>zQ M M M) (cloneBB_spec w0 D _ d hd (by omega)) (xF.all _) M M M M ?_
  rintro vc _ ⟨hc,hcl,rfl⟩
  obtain ⟨a4,c4,rfl⟩:=hcl.shape
  have hnew:Rep.rd w0 (X+hc) (⟨m,d⟩:Wr) [.int .i64 m,.slice a4 d.length c4]:=⟨a4,c4,rfl,hcl.plainB.rd (X:=0) (R:=X)⟩
  have hall':=hall.mono (S:=Rep.rd w0 (X+hc)) (fun x e he=>Rep.mono M he)
  refine ⟨zka,?_⟩
  repeat (refine V_pure M (wJ (vs:=[_,_]) (cells:=[_,_]) M M) (fun _=>wJ (vs:=[_,_]) (cells:=[_,_]) M M) M M M M ?_)
  refine V_now M M M M (fun b7=>?_)
  refine xS M M M M (wH (vs:=[_,_]) M M M M (c:=[_,_]) (Nat.le_of_ble_eq_true M) (c':=[_,_]) M) (xF.all _) ?_
  rintro _ _ rfl
  refine ⟨zka,?_⟩
  repeat (refine yI ?_)
  refine zaA ?_
  refine yB [7,8,11] [0,1,2,3,4,5,6,7,8,9,10,11] (by kernel_rfl) M (by kernel_rfl) (by kernel_rfl) ?_
  refine zfB ?_
  refine xS M M M M (xV (vs:=[_]) (cells:=[_,_]) M M M M) (xF.all _) ?_
  rintro _ _ ⟨bn,rfl,rfl⟩
  refine ⟨zka,?_⟩
  skip
  refine xU M M M M (zQ M M M) (insertAtWr_spec w0 es _ hw bn i _ hrow (hwl i hbs) hall.ones (Rep.len hnew) (Rep.one hnew) (by omega)) (xF.all _) ?_
  rintro vn hn2 hrown
  obtain ⟨an,cn,rfl⟩:=hrown.shape
  refine ⟨zka,?_⟩
  refine zaO ?_
  refine xS M M M M (kA M M M M M (c':=(_::_::_::_::_::_::_::_::[])) M) (xF.all _) ?_
  rintro _ _ rfl
  refine ⟨zka,?_⟩
  repeat (refine yI ?_)
  refine zbQ ?_
  have hset:OwL w0 (X+hc) (setW ws m d) _ hn2:=⟨_,hrown,by
   unfold setW
   rw [← hlo,← hhi]
   exact (hall'.take i).append (ys:=_::_) ⟨hnew,hall'.drop i⟩⟩
  have P2:=P.mono (L:=X+hc) (R:=hc) M
  have hT3:uL w0 (X+hc) tb { c.cur with writes:=setW ws m d } _:=⟨vr,va,_,ap,cp,hr,ha,hn2,rfl,k1.mono M,k2,hset,k4.mono M⟩
  have hP3:xT w0 (X+hc) b { c with cur:={ c.cur with writes:=setW ws m d } } ⟨vmem,vr0,vsets,vmr,vg,ve,vd,vrq,pB tb,vow,vw,vco,vou,van⟩ tb ps hG hE hD hR _ hK hO :=
   xT.mk P2.mem P2.rngs0 P2.sets P2.mr P2.guess P2.ended P2.dbts P2.reqs P2.opn P2.own (.inl hT3) P2.waits P2.coord P2.out P2.ansd
  refine zX M M (zQ M M M) (xL w0 (X+hc) b tb { c with cur:={ c.cur with writes:=setW ws m d } } _ ⟨_,ps,hG,hE,hD,hR,_,hK,hO,hP3,rfl⟩ 0) ?_
  rintro _ _ hA
  repeat (refine zE ?_)
  exact ⟨[],_,_,trivial,⟨_,hA.after.trans,rfl⟩,yJ.out⟩
 ·obtain ⟨hx,hk,hlo,hhi,hfi⟩:=bs_found (key:=Wr.block) hs hbs hfd
  have hany:ws.any (isW m)=true:=List.any_eq_true.2 ⟨_,List.getElem_mem hx,by simpa [isW] using hk⟩
  rw [writing_to hop (l:=setW ws m d) (e:=0) (by rw [hws,hnb,hwf,if_neg (fun hx=>by rw [hany] at hx; exact absurd hx.1 (by simp))])]
  have hsw:setW ws m d=ws.set i ⟨m,d⟩:=by
   unfold setW
   rw [← hlo,← hhi,List.set_eq_take_append_cons_drop,if_pos hx]
  have hxe:i<es.length:=by omega
  rcases hrow with ⟨hr1,⟨ad,_,hnil,_⟩|⟨bk,cap,spare,hv,rfl,hr2,hr3,hr4⟩⟩
  ·rw [hnil] at hxe; exact absurd hxe (by simp)
  simp only [Value.slice.injEq] at hv
  obtain ⟨rfl,_,rfl⟩:=hv
  have hr1:∀ x∈es,x.length=2:=hr1
  have hr4:spare.length=(cf - es.length)*2:=hr4
  repeat (first|refine zF ?_|refine zE ?_|refine zK M M M ?_|refine xE M M ?_|refine zI M ?_)
  refine dX [4,6,7] [0,1,2,3,4,5,6,7] 6 7 [.int .i64 0,.slice none 0 0] 44 (by kernel_rfl) M (by kernel_rfl) (by kernel_rfl) (by kernel_rfl) ?_
  repeat (first|refine V_pure M (zZ M M M) (fun _=>zZ M M M) M M M M ?_|refine V_load M M (fun _=>rfl) (zG M (zS M)) M M M M ?_)
  refine V_call M M M M M (zQ M M M) (fun _=>zQ M M M) (cloneBB_spec w0 D _ d hd (by omega)) (xF.all _) M M M M ?_
  rintro vc _ ⟨hc,hcl,rfl⟩
  obtain ⟨a4,c4,rfl⟩:=hcl.shape
  have hnew:Rep.rd w0 (X+hc) (⟨m,d⟩:Wr) [.int .i64 m,.slice a4 d.length c4]:=⟨a4,c4,rfl,hcl.plainB.rd (X:=0) (R:=X)⟩
  have hall':=hall.mono (S:=Rep.rd w0 (X+hc)) (fun x e he=>Rep.mono M he)
  refine ⟨zka,?_⟩
  repeat (refine V_pure M (wJ (vs:=[_,_]) (cells:=[_,_]) M M) (fun _=>wJ (vs:=[_,_]) (cells:=[_,_]) M M) M M M M ?_)
  refine V_now M M M M (fun b7=>?_)
  refine xS M M M M (wH (vs:=[_,_]) M M M M (c:=[_,_]) (Nat.le_of_ble_eq_true M) (c':=[_,_]) M) (xF.all _) ?_
  rintro _ _ rfl
  refine ⟨zka,?_⟩
  repeat (refine yI ?_)
  repeat (first|refine zF ?_|refine zB ?_|refine zE ?_|refine zK M M M ?_|refine zJ M ?_|refine kC M M (by omega) M M ?_|refine xJ M (vs:=[_,_]) M M M M M ?_)
  refine kF M M (wH (vs:=[_,_]) M M M M (c:=es.flatten++spare) (by have hfl:=jL hr1; simp only [List.length_append,hfl,List.length_cons,List.length_nil]; omega) (flat_setW hr1 M hxe)) ?_
  rintro _ _ rfl
  refine zcO ?_
  have hset:OwL w0 (X+hc) (setW ws m d) (.slice (some ⟨bk,0,none⟩) ws.length cf) (pt bk (.cells ((es.set i [.int .i64 m,.slice a4 d.length c4]).flatten++spare).toArray 44 (0,0))):=by
   refine ⟨es.set i [.int .i64 m,.slice a4 d.length c4],?_,by rw [hsw]; exact hall'.set i hnew⟩
   have:=jH (E:=44) (b:=bk) (cap:=cf) (spare:=spare) (size:=2) (xs:=es.set i [.int .i64 m,.slice a4 d.length c4]) (fun x hx=>(List.mem_or_eq_of_mem_set hx).elim (hr1 x) (fun e=>by rw [e]; rfl)) (by simpa using hr2) hr3 (by simpa using hr4)
   rwa [List.length_set,hes] at this
  have P2:=P.mono (L:=X+hc) (R:=hc) M
  have hT3:uL w0 (X+hc) tb { c.cur with writes:=setW ws m d } _:=⟨vr,va,_,ap,cp,hr,ha,_,rfl,k1.mono M,k2,hset,k4.mono M⟩
  have hP3:xT w0 (X+hc) b { c with cur:={ c.cur with writes:=setW ws m d } } ⟨vmem,vr0,vsets,vmr,vg,ve,vd,vrq,pB tb,vow,vw,vco,vou,van⟩ tb ps hG hE hD hR _ hK hO :=
   xT.mk P2.mem P2.rngs0 P2.sets P2.mr P2.guess P2.ended P2.dbts P2.reqs P2.opn P2.own (.inl hT3) P2.waits P2.coord P2.out P2.ansd
  refine zX M M (zQ M M M) (xL w0 (X+hc) b tb { c with cur:={ c.cur with writes:=setW ws m d } } _ ⟨_,ps,hG,hE,hD,hR,_,hK,hO,hP3,rfl⟩ 0) ?_
  rintro _ _ hA
  repeat (refine zE ?_)
  exact ⟨[],_,_,trivial,⟨_,hA.after.trans,rfl⟩,yJ.out⟩
end
theorem doingK1_spec (w0:World) (b:Nat):yO Tryz.prog w0 31 [pB b,.int .i64 1] 0 (fun r h'=>r=.func (.func 70) #[pB b] #[]∧0=h'):=by
 refine zN Tryz.func31 M Tryz.ntmps31 Tryz.results31 M fun fr=>?_
 refine zaL ?_
 refine kD M M (yK M M) (by decide) ?_
 refine zaB ?_
 exact ⟨[_],0,_,⟨rfl,trivial⟩,⟨rfl,rfl⟩,yJ.out⟩
theorem doingK2_spec (w0:World) (b:Nat):yO Tryz.prog w0 31 [pB b,.int .i64 2] 0 (fun r h'=>r=.func (.func 71) #[pB b] #[]∧0=h'):=by
 refine zN Tryz.func31 M Tryz.ntmps31 Tryz.results31 M fun fr=>?_
 refine zaL ?_
 refine yP M M (yK M M) (by decide) ?_
 refine zaA ?_
 refine kD M M (yK M M) (by decide) ?_
 refine zaB ?_
 exact ⟨[_],0,_,⟨rfl,trivial⟩,⟨rfl,rfl⟩,yJ.out⟩
theorem doingK3_spec (w0:World) (b:Nat):yO Tryz.prog w0 31 [pB b,.int .i64 3] 0 (fun r h'=>r=.func (.func 72) #[pB b] #[]∧0=h'):=by
 refine zN Tryz.func31 M Tryz.ntmps31 Tryz.results31 M fun fr=>?_
 refine zaL ?_
 refine yP M M (yK M M) (by decide) ?_
 refine zaA ?_
 refine yP M M (yK M M) (by decide) ?_
 refine zaA ?_
 refine kD M M (yK M M) (by decide) ?_
 refine zaB ?_
 exact ⟨[_],0,_,⟨rfl,trivial⟩,⟨rfl,rfl⟩,yJ.out⟩
theorem doingK4_spec (w0:World) (b:Nat):yO Tryz.prog w0 31 [pB b,.int .i64 4] 0 (fun r h'=>r=.func (.func 73) #[pB b] #[]∧0=h'):=by
 refine zN Tryz.func31 M Tryz.ntmps31 Tryz.results31 M fun fr=>?_
 refine zaL ?_
 refine yP M M (yK M M) (by decide) ?_
 refine zaA ?_
 refine yP M M (yK M M) (by decide) ?_
 refine zaA ?_
 refine yP M M (yK M M) (by decide) ?_
 refine zaA ?_
 refine kD M M (yK M M) (by decide) ?_
 refine zaB ?_
 exact ⟨[_],0,_,⟨rfl,trivial⟩,⟨rfl,rfl⟩,yJ.out⟩
theorem doingK5_spec (w0:World) (b:Nat):yO Tryz.prog w0 31 [pB b,.int .i64 5] 0 (fun r h'=>r=.func (.func 74) #[pB b] #[]∧0=h'):=by
 refine zN Tryz.func31 M Tryz.ntmps31 Tryz.results31 M fun fr=>?_
 refine zaL ?_
 refine yP M M (yK M M) (by decide) ?_
 refine zaA ?_
 refine yP M M (yK M M) (by decide) ?_
 refine zaA ?_
 refine yP M M (yK M M) (by decide) ?_
 refine zaA ?_
 refine yP M M (yK M M) (by decide) ?_
 refine zaA ?_
 refine kD M M (yK M M) (by decide) ?_
 refine zaB ?_
 exact ⟨[_],0,_,⟨rfl,trivial⟩,⟨rfl,rfl⟩,yJ.out⟩
theorem doingK6_spec (w0:World) (b:Nat):yO Tryz.prog w0 31 [pB b,.int .i64 6] 0 (fun r h'=>r=.func (.func 75) #[pB b] #[]∧0=h'):=by
 refine zN Tryz.func31 M Tryz.ntmps31 Tryz.results31 M fun fr=>?_
 refine zaL ?_
 refine yP M M (yK M M) (by decide) ?_
 refine zaA ?_
 refine yP M M (yK M M) (by decide) ?_
 refine zaA ?_
 refine yP M M (yK M M) (by decide) ?_
 refine zaA ?_
 refine yP M M (yK M M) (by decide) ?_
 refine zaA ?_
 refine yP M M (yK M M) (by decide) ?_
 refine zaA ?_
 refine kD M M (yK M M) (by decide) ?_
 refine zaB ?_
 exact ⟨[_],0,_,⟨rfl,trivial⟩,⟨rfl,rfl⟩,yJ.out⟩
theorem doingK7_spec (w0:World) (b:Nat):yO Tryz.prog w0 31 [pB b,.int .i64 7] 0 (fun r h'=>r=.func (.func 76) #[pB b] #[]∧0=h'):=by
 refine zN Tryz.func31 M Tryz.ntmps31 Tryz.results31 M fun fr=>?_
 refine zaL ?_
 refine yP M M (yK M M) (by decide) ?_
 refine zaA ?_
 refine yP M M (yK M M) (by decide) ?_
 refine zaA ?_
 refine yP M M (yK M M) (by decide) ?_
 refine zaA ?_
 refine yP M M (yK M M) (by decide) ?_
 refine zaA ?_
 refine yP M M (yK M M) (by decide) ?_
 refine zaA ?_
 refine yP M M (yK M M) (by decide) ?_
 refine zaA ?_
 refine kD M M (yK M M) (by decide) ?_
 refine zaB ?_
 exact ⟨[_],0,_,⟨rfl,trivial⟩,⟨rfl,rfl⟩,yJ.out⟩
theorem doingK8_spec (w0:World) (b:Nat):yO Tryz.prog w0 31 [pB b,.int .i64 8] 0 (fun r h'=>r=.func (.func 77) #[pB b] #[]∧0=h'):=by
 refine zN Tryz.func31 M Tryz.ntmps31 Tryz.results31 M fun fr=>?_
 refine zaL ?_
 refine yP M M (yK M M) (by decide) ?_
 refine zaA ?_
 refine yP M M (yK M M) (by decide) ?_
 refine zaA ?_
 refine yP M M (yK M M) (by decide) ?_
 refine zaA ?_
 refine yP M M (yK M M) (by decide) ?_
 refine zaA ?_
 refine yP M M (yK M M) (by decide) ?_
 refine zaA ?_
 refine yP M M (yK M M) (by decide) ?_
 refine zaA ?_
 refine yP M M (yK M M) (by decide) ?_
 refine zaA ?_
 refine kD M M (yK M M) (by decide) ?_
 refine zaB ?_
 exact ⟨[_],0,_,⟨rfl,trivial⟩,⟨rfl,rfl⟩,yJ.out⟩
theorem doingK9_spec (w0:World) (b:Nat):yO Tryz.prog w0 31 [pB b,.int .i64 9] 0 (fun r h'=>r=.func (.func 78) #[pB b] #[]∧0=h'):=by
 refine zN Tryz.func31 M Tryz.ntmps31 Tryz.results31 M fun fr=>?_
 refine zaL ?_
 refine yP M M (yK M M) (by decide) ?_
 refine zaA ?_
 refine yP M M (yK M M) (by decide) ?_
 refine zaA ?_
 refine yP M M (yK M M) (by decide) ?_
 refine zaA ?_
 refine yP M M (yK M M) (by decide) ?_
 refine zaA ?_
 refine yP M M (yK M M) (by decide) ?_
 refine zaA ?_
 refine yP M M (yK M M) (by decide) ?_
 refine zaA ?_
 refine yP M M (yK M M) (by decide) ?_
 refine zaA ?_
 refine yP M M (yK M M) (by decide) ?_
 refine zaA ?_
 refine kD M M (yK M M) (by decide) ?_
 refine zaB ?_
 exact ⟨[_],0,_,⟨rfl,trivial⟩,⟨rfl,rfl⟩,yJ.out⟩
theorem doingK10_spec (w0:World) (b:Nat):yO Tryz.prog w0 31 [pB b,.int .i64 10] 0 (fun r h'=>r=.func (.func 79) #[pB b] #[]∧0=h'):=by
 refine zN Tryz.func31 M Tryz.ntmps31 Tryz.results31 M fun fr=>?_
 refine zaL ?_
 refine yP M M (yK M M) (by decide) ?_
 refine zaA ?_
 refine yP M M (yK M M) (by decide) ?_
 refine zaA ?_
 refine yP M M (yK M M) (by decide) ?_
 refine zaA ?_
 refine yP M M (yK M M) (by decide) ?_
 refine zaA ?_
 refine yP M M (yK M M) (by decide) ?_
 refine zaA ?_
 refine yP M M (yK M M) (by decide) ?_
 refine zaA ?_
 refine yP M M (yK M M) (by decide) ?_
 refine zaA ?_
 refine yP M M (yK M M) (by decide) ?_
 refine zaA ?_
 refine yP M M (yK M M) (by decide) ?_
 refine zaA ?_
 refine kD M M (yK M M) (by decide) ?_
 refine zaB ?_
 exact ⟨[_],0,_,⟨rfl,trivial⟩,⟨rfl,rfl⟩,yJ.out⟩
theorem doingK11_spec (w0:World) (b:Nat):yO Tryz.prog w0 31 [pB b,.int .i64 11] 0 (fun r h'=>r=.func (.func 80) #[pB b] #[]∧0=h'):=by
 refine zN Tryz.func31 M Tryz.ntmps31 Tryz.results31 M fun fr=>?_
 refine zaL ?_
 refine yP M M (yK M M) (by decide) ?_
 refine zaA ?_
 refine yP M M (yK M M) (by decide) ?_
 refine zaA ?_
 refine yP M M (yK M M) (by decide) ?_
 refine zaA ?_
 refine yP M M (yK M M) (by decide) ?_
 refine zaA ?_
 refine yP M M (yK M M) (by decide) ?_
 refine zaA ?_
 refine yP M M (yK M M) (by decide) ?_
 refine zaA ?_
 refine yP M M (yK M M) (by decide) ?_
 refine zaA ?_
 refine yP M M (yK M M) (by decide) ?_
 refine zaA ?_
 refine yP M M (yK M M) (by decide) ?_
 refine zaA ?_
 refine yP M M (yK M M) (by decide) ?_
 refine zaA ?_
 refine kD M M (yK M M) (by decide) ?_
 refine zaB ?_
 exact ⟨[_],0,_,⟨rfl,trivial⟩,⟨rfl,rfl⟩,yJ.out⟩
theorem doingNo_spec (w0:World) (b:Nat) (k:Int) (h:k<1∨11<k):yO Tryz.prog w0 31 [pB b,.int .i64 k] 0 (fun r h'=>r=.nilFunc∧0=h'):=by
 refine zN Tryz.func31 M Tryz.ntmps31 Tryz.results31 M fun fr=>?_
 refine zaL ?_
 refine yP M M (yK M M) (by omega) ?_
 refine zaA ?_
 refine yP M M (yK M M) (by omega) ?_
 refine zaA ?_
 refine yP M M (yK M M) (by omega) ?_
 refine zaA ?_
 refine yP M M (yK M M) (by omega) ?_
 refine zaA ?_
 refine yP M M (yK M M) (by omega) ?_
 refine zaA ?_
 refine yP M M (yK M M) (by omega) ?_
 refine zaA ?_
 refine yP M M (yK M M) (by omega) ?_
 refine zaA ?_
 refine yP M M (yK M M) (by omega) ?_
 refine zaA ?_
 refine yP M M (yK M M) (by omega) ?_
 refine zaA ?_
 refine yP M M (yK M M) (by omega) ?_
 refine zaA ?_
 refine yP M M (yK M M) (by omega) ?_
 refine zbD ?_
 exact ⟨[_],0,_,⟨rfl,trivial⟩,⟨rfl,rfl⟩,yJ.out⟩
theorem zcN {G G' : Prop} (h : G') (f : Zh G'→G:=by intro h; (repeat (first|refine zE ?_|refine zK M M M ?_|refine zM ?_|refine yY M (vs:=[_,_,_]) M M M M (c':=[_,_,_]) M M ?_)); exact h.o) : G:=f ⟨h⟩
section
variable (w0:World) (X:Hp) (b tb:Nat) (c:Cl) (S:Hp) (n:Nat) (x:Cal)
theorem doing_all (D:Hp) (d:List Bt) (da:Option Addr) (dc:Nat) (hd:RdL w0 D (.slice da d.length dc) d) (hdl:d.length≤1000000000) (hS:kT w0 X b tb c S) (hZ:Sz n c) (hn:n+100≤100000000) (hF:xG c) (hB:Base c) (ho:c.own=false) (hx:qH x) (h1:1≤x.kind∧x.kind≤11) :
  ∃ k,Fun Tryz.prog k∧yO Tryz.prog w0 31 [pB b,.int .i64 x.kind] 0 (fun r h'=>r=.func (.func k) #[pB b] #[]∧0=h') ∧
   yO Tryz.prog w0 k [pB b,.agg (xW x (.slice da d.length dc)).toArray] (X+S+D) (fun r h'=>∃ tb' h1,kP w0 X b tb' (vZ c x d) h1∧h1+D=h'):=by
 have up:∀ {k:Nat} {c':Cl},yO Tryz.prog w0 k [pB b,.agg (xW x (.slice da d.length dc)).toArray] (X+S) (fun r h'=>kP w0 X b tb c' h')→vZ c x d=c'→yO Tryz.prog w0 k [pB b,.agg (xW x (.slice da d.length dc)).toArray] (X+S+D) (fun r h'=>∃ tb' h1,kP w0 X b tb' (vZ c x d) h1∧h1+D=h') :=
  fun h e=>h.into (R:=D) M fun r h' H=>⟨tb,h',by rw [e]; exact H,rfl⟩
 have up2:∀ {k:Nat} {c':Cl},yO Tryz.prog w0 k [pB b,.agg (xW x (.slice da d.length dc)).toArray] (X+S) (fun r h'=>∃ tb',kP w0 X b tb' c' h')→vZ c x d=c'→yO Tryz.prog w0 k [pB b,.agg (xW x (.slice da d.length dc)).toArray] (X+S+D) (fun r h'=>∃ tb' h1,kP w0 X b tb' (vZ c x d) h1∧h1+D=h') :=
  fun h e=>h.into (R:=D) M fun r h' ⟨tb',H⟩=>⟨tb',h',by rw [e]; exact H,rfl⟩
 have hk:x.kind=1∨x.kind=2∨x.kind=3∨x.kind=4∨x.kind=5∨x.kind=6∨x.kind=7∨x.kind=8∨x.kind=9∨x.kind=10∨x.kind=11:=by omega
 rcases hk with hk|hk|hk|hk|hk|hk|hk|hk|hk|hk|hk
 ·exact ⟨_,inferInstance,by rw [hk]; exact doingK1_spec w0 b,up2 (beginning_spec w0 X b tb c S n x _ hS hZ hn hF hB ho) (by unfold vZ; rw [if_pos hk])⟩
 ·exact ⟨_,inferInstance,by rw [hk]; exact doingK2_spec w0 b,up (readings_spec w0 X b tb c S n x _ hS hZ hn hF) (by unfold vZ; rw [if_neg (by omega)]; rw [if_pos hk])⟩
 ·exact ⟨_,inferInstance,by rw [hk]; exact doingK3_spec w0 b,(writings_spec w0 X b tb c S n x D d da dc hd hdl hS hZ hn hF).mono fun r h' ⟨h1,H,e⟩=>⟨tb,h1,by rw [show vZ c x d=qQ c x d by unfold vZ; rw [if_neg (by omega),if_neg (by omega),if_pos hk]]; exact H,e⟩⟩
 ·exact ⟨_,inferInstance,by rw [hk]; exact doingK4_spec w0 b,up (committing_spec w0 X b tb c S n x _ hS hZ hn hF) (by unfold vZ; rw [if_neg (by omega)]; rw [if_neg (by omega)]; rw [if_neg (by omega)]; rw [if_pos hk])⟩
 ·exact ⟨_,inferInstance,by rw [hk]; exact doingK5_spec w0 b,up (aborting_spec w0 X b tb c S n x _ hS hZ hn hF) (by unfold vZ; rw [if_neg (by omega)]; rw [if_neg (by omega)]; rw [if_neg (by omega)]; rw [if_neg (by omega)]; rw [if_pos hk])⟩
 ·exact ⟨_,inferInstance,by rw [hk]; exact doingK6_spec w0 b,up (barring_spec w0 X b tb c S n x _ hS hZ hn hF) (by unfold vZ; rw [if_neg (by omega)]; rw [if_neg (by omega)]; rw [if_neg (by omega)]; rw [if_neg (by omega)]; rw [if_neg (by omega)]; rw [if_pos hk])⟩
 ·exact ⟨_,inferInstance,by rw [hk]; exact doingK7_spec w0 b,up2 (snapping_spec w0 X b tb c S n x _ hS hZ hn hF hB ho) (by unfold vZ; rw [if_neg (by omega)]; rw [if_neg (by omega)]; rw [if_neg (by omega)]; rw [if_neg (by omega)]; rw [if_neg (by omega)]; rw [if_neg (by omega)]; rw [if_pos hk])⟩
 ·exact ⟨_,inferInstance,by rw [hk]; exact doingK8_spec w0 b,up (readingSnap_spec w0 X b tb c S n x _ hS hZ hn hF hx) (by unfold vZ; rw [if_neg (by omega)]; rw [if_neg (by omega)]; rw [if_neg (by omega)]; rw [if_neg (by omega)]; rw [if_neg (by omega)]; rw [if_neg (by omega)]; rw [if_neg (by omega)]; rw [if_pos hk])⟩
 ·exact ⟨_,inferInstance,by rw [hk]; exact doingK9_spec w0 b,up (statusing_spec w0 X b tb c S n x _ hS hZ hn hF) (by unfold vZ; rw [if_neg (by omega)]; rw [if_neg (by omega)]; rw [if_neg (by omega)]; rw [if_neg (by omega)]; rw [if_neg (by omega)]; rw [if_neg (by omega)]; rw [if_neg (by omega)]; rw [if_neg (by omega)]; rw [if_pos hk])⟩
 ·exact ⟨_,inferInstance,by rw [hk]; exact doingK10_spec w0 b,up (moving_spec w0 X b tb c S n x _ hS hZ hn hF hx) (by unfold vZ; rw [if_neg (by omega)]; rw [if_neg (by omega)]; rw [if_neg (by omega)]; rw [if_neg (by omega)]; rw [if_neg (by omega)]; rw [if_neg (by omega)]; rw [if_neg (by omega)]; rw [if_neg (by omega)]; rw [if_neg (by omega)]; rw [if_pos hk])⟩
 ·exact ⟨_,inferInstance,by rw [hk]; exact doingK11_spec w0 b,up (membering_spec w0 X b tb c S n x _ hS hZ hn hF) (by unfold vZ; rw [if_neg (by omega)]; rw [if_neg (by omega)]; rw [if_neg (by omega)]; rw [if_neg (by omega)]; rw [if_neg (by omega)]; rw [if_neg (by omega)]; rw [if_neg (by omega)]; rw [if_neg (by omega)]; rw [if_neg (by omega)]; rw [if_neg (by omega)])⟩
theorem calling_spec (D:Hp) (d:List Bt) (da:Option Addr) (dc:Nat) (hd:RdL w0 D (.slice da d.length dc) d) (hdl:d.length≤1000000000) (hS:kT w0 X b tb c S) (hZ:Sz n c) (hn:n+200≤100000000) (hA:qP c) (hx:qH x) :
  yO Tryz.prog w0 11 [pB b,.agg (xW x (.slice da d.length dc)).toArray] (X+S+D) (fun r h'=>∃ tb' h1,Fin w0 X b tb' (wG c x d).1 (wG c x d).2 r h1∧h1+D=h'):=by
 have hF:=hA.2.1
 have hno:∀ {r:Value} {e:Int},r=.tuple #[.slice none 0 0,.agg [.int .i64 e,.int .i64 0,.slice none 0 0].toArray,.bool true]→wG c x d=(c,⟨[],⟨e,0,[]⟩,true⟩)→∃ tb' h1,Fin w0 X b tb' (wG c x d).1 (wG c x d).2 r h1∧h1+D=X+S+D:=by
  rintro r e rfl he
  rw [he]
  exact ⟨tb,X+S,⟨0,S,0,⟨.slice none 0 0,none,0,rfl,OwL.nil _ _,RdL.nil _ _ _⟩,by rw [yA]; exact hS,by rw [yA,yA]⟩,rfl⟩
 have hS9:=id hS
 obtain ⟨⟨vmem,vr0,vsets,vmr,vg,ve,vd,vrq,vop,vow,vw,vco,vou,van⟩,ps,hG,hE,hD,hR,hT,hK,hO,P,rfl⟩:=hS
 refine zN Tryz.func11 M Tryz.ntmps11 Tryz.results11 M fun fr=>?_
 repeat (first|refine zF ?_|refine zB ?_|refine zE ?_|refine zK M M M ?_|refine zY M M M M M ?_|refine yM M M M M M ?_|refine xN M (c:=[_,_,_,_,_,_,_,_,_,_,_,_,_]) M M M (fun _=>?_)|refine xK (c:=[_,_,_]) M M M (fun _=>?_))
 rename_i b3 b5
 refine gS (t:=c.busy) M (fun hb=>?_) (fun hb=>?_)
 ·repeat (first|refine zF ?_|refine zB ?_|refine zE ?_|refine zK M M M ?_|refine zM ?_|refine yL (vs:=[_]) (cells:=[_,_,_]) M M M M ?_|refine yY M (vs:=[_,_,_]) M M M M (c':=[_,_,_]) M M ?_)
  exact ⟨[_,_,_],X+_+D,_,⟨rfl,⟨_,rfl,zL (vs:=[_,_,_]) M M M⟩,rfl,trivial⟩,hno (e:=11) M (by unfold wG; rw [if_pos hb]),yJ.out⟩
 repeat (first|refine zF ?_|refine zB ?_|refine zK M M M ?_|refine zY M M M M M ?_|refine yM M M M M M ?_|refine zP ?_)
 by_cases hk:x.kind<1∨11<x.kind
 ·refine zX M M (zQ M M M) (doingNo_spec w0 b x.kind hk) ?_
  rintro _ _ ⟨rfl,rfl⟩
  refine zaC ?_
  refine yG M M (pv_eql_nilfunc (r:=true) M M (.inl ⟨rfl,rfl⟩)) ?_
  repeat (first|refine zF ?_|refine zB ?_|refine zE ?_|refine zK M M M ?_|refine zM ?_|refine zJ M ?_|refine yL (vs:=[_]) (cells:=[_,_,_]) M M M M ?_|refine yY M (vs:=[_,_,_]) M M M M (c':=[_,_,_]) M M ?_)
  exact ⟨[_,_,_],X+_+D,_,⟨rfl,⟨_,rfl,zL (vs:=[_,_,_]) M M M⟩,rfl,trivial⟩,hno (e:=13) M (by unfold wG; rw [if_neg (by rw [hb]; simp),if_pos hk]),yJ.out⟩
 have hr:Rest c:=hA.2.2.2.elim (fun hw=>by rw [hw.1] at hb; cases hb) id
 have hB1:Base { c with busy:=true,kind:=x.kind,since:=c.clock }:=⟨rfl,hr.2.1,hr.2.2.1,hr.2.2.2.1,hr.2.2.2.2.1⟩
 have hF1:xG { c with busy:=true,kind:=x.kind,since:=c.clock }:=⟨hF.guess,hF.reqs,hF.rngs,hF.parts,hF.asked,hF.doubts,hF.coord,hF.nmem⟩
 have hZ1:Sz n { c with busy:=true,kind:=x.kind,since:=c.clock }:=hZ.begun x.kind
 have hP1:xT w0 X b { c with busy:=true,kind:=x.kind,since:=c.clock } ⟨vmem,vr0,vsets,vmr,vg,ve,vd,vrq,vop,vow,vw,vco,vou,van⟩ tb ps hG hE hD hR hT hK hO :=
  xT.mk P.mem P.rngs0 P.sets P.mr P.guess P.ended P.dbts P.reqs P.opn P.own P.txn P.waits P.coord P.out P.ansd
 obtain ⟨k,hfk,hdoing,hrun⟩:=doing_all w0 X b tb { c with busy:=true,kind:=x.kind,since:=c.clock } _ n x D d da dc hd hdl ⟨_,ps,hG,hE,hD,hR,hT,hK,hO,hP1,rfl⟩ hZ1 (by omega) hF1 hB1 hr.2.2.2.2.2 hx (by omega)
 have hdo:=doesF_ok hB1 hr.2.2.2.2.2 hF1 x M (by omega) d
 have hZ2:=hZ1.does (by omega) hF1 hx d
 have e0:wG c x d=(dO (vZ { c with busy:=true,kind:=x.kind,since:=c.clock } x d),endF (vZ { c with busy:=true,kind:=x.kind,since:=c.clock } x d)):=by
  unfold wG; rw [if_neg (by rw [hb]; simp),if_neg hk]
 rw [e0]
 clear e0 hno
 refine zX M M (zQ M M M) hdoing ?_
 rintro _ _ ⟨rfl,rfl⟩
 refine zaC ?_
 refine yG M M (pv_eql_nilfunc (r:=false) M M (.inr ⟨⟨_,_,_,rfl⟩,rfl⟩)) ?_
 refine zbP ?_
 refine yB [11,14,17] [0,1,2,3,4,5,6,7,8,9,10,11,12,13,14,15,16,17] (by kernel_rfl) M (by kernel_rfl) (by kernel_rfl) ?_
 refine zaF ?_
 refine xS M M M M (kA M M M M M (c':=(_::_::_::_::_::_::_::_::_::_::_::_::_::_::_::_::_::_::_::_::_::_::_::_::_::_::_::_::_::_::_::_::_::_::_::_::_::_::[])) M) (xF.all _) ?_
 rintro _ _ rfl
 refine ⟨zka,?_⟩
 refine zaO ?_
 refine xS M M M M (kA M M M M M (c':=(_::_::_::_::_::_::_::_::_::_::_::_::_::_::_::_::_::_::_::_::_::_::_::_::_::_::_::_::_::_::_::_::_::_::_::_::_::_::[])) M) (xF.all _) ?_
 rintro _ _ rfl
 refine ⟨zka,?_⟩
 refine zaO ?_
 refine xS M M M M (kA M M M M M (c':=(_::_::_::_::_::_::_::_::_::_::_::_::_::_::_::_::_::_::_::_::_::_::_::_::_::_::_::_::_::_::_::_::_::_::_::_::_::_::[])) M) (xF.all _) ?_
 rintro _ _ rfl
 refine ⟨zka,?_⟩
 repeat (refine yI ?_)
 repeat (first|refine zF ?_|refine zB ?_|refine zK M M M ?_|refine xJ M (vs:=[_,_,_,_,_,_,_,_,_,_,_,_,_]) M M M M M ?_)
 refine zX M M (zQ M M (by simp<;>rfl)) hrun ?_
 rintro _ _ ⟨tb',h1,⟨E,S2,hS2,rfl⟩,rfl⟩
 generalize vZ { c with busy:=true,kind:=x.kind,since:=c.clock } x d=c3 at *
 refine zaC ?_
 refine zX M M (zQ M M M) (doneC_spec w0 (X+E) b tb' c3 S2 (n+40) hS2 hZ2.bd (by omega) hdo.1) ?_
 rintro r h' ⟨E2,S3,ho,⟨vo,ad,cd,rfl,q1,q2⟩,q3,rfl⟩
 refine zcN ?_
 exact ⟨[_,_,_],_,_,⟨rfl,⟨_,rfl,zL (vs:=[_,_,_]) M M M⟩,rfl,trivial⟩,⟨tb',_,⟨E+E2,S3,ho,⟨vo,ad,cd,rfl,by rw [← yZ]; exact q1,by rw [← yZ]; exact q2⟩,by rw [← yZ]; exact q3,rfl⟩,rfl⟩,yJ.out⟩
end
theorem over_facts {c:Cl} (h:dI c):((c.kind=4∨c.kind=7)→c.own=true∨c.opn=true)∧(c.kind=2→c.opn=true):=by
 rcases h.2.2 with ⟨_,_,w,_,k⟩|⟨⟨h,_,k⟩,_⟩|⟨_,b,_,k⟩|⟨_,_,_,_,_,k⟩
 ·cases w with
  | read x=>exact ⟨fun _=>.inr k.2.1,fun _=>k.2.1⟩
  | prep=>exact ⟨fun _=>.inr k.2.1,fun _=>k.2.1⟩
  | snap=>exact ⟨fun _=>.inl k.2.2,fun e=>by have:=k.1; omega⟩
  | kept x=>exact ⟨fun e=>by have:=k.1; omega,fun e=>by have:=k.1; omega⟩
  | again x=>exact ⟨fun e=>by have:=k.1; omega,fun e=>by have:=k.1; omega⟩
 ·cases h with
  | read x=>exact ⟨fun _=>.inr k.2,fun _=>k.2⟩
  | kept x=>have k:c.kind=8:=k; exact ⟨fun e=>by omega,fun e=>by omega⟩
  | plan x=>have k:c.kind=10:=k; exact ⟨fun e=>by omega,fun e=>by omega⟩
  | frz x e=>have k:c.kind=10:=k; exact ⟨fun e=>by omega,fun e=>by omega⟩
  | inst x e=>have k:c.kind=10:=k; exact ⟨fun e=>by omega,fun e=>by omega⟩
  | fin x e=>have k:c.kind=10:=k; exact ⟨fun e=>by omega,fun e=>by omega⟩
  | change x=>have k:c.kind=11:=k; exact ⟨fun e=>by omega,fun e=>by omega⟩
  | quiet=>exact k.elim
  | look=>exact k.elim
  | part o g=>exact k.elim
 ·exact ⟨fun _=>.inl b,fun e=>by rcases k with k|k<;>have:=k.1<;>omega⟩
 ·exact ⟨fun e=>by omega,fun e=>by omega⟩
theorem zfD {G G' : Prop} (h : G') (f : Zh G'→G:=by intro h; (repeat (first|refine zF ?_|refine zR ?_|refine zB ?_|refine zE ?_|refine zK M M M ?_|refine zY M M M M M ?_|refine yM M M M M M ?_|refine zP ?_|refine zI M ?_)); exact h.o) : G:=f ⟨h⟩
theorem zdX {G G' : Prop} (h : G') (f : Zh G'→G:=by intro h; (repeat (first|refine zF ?_|refine zR ?_|refine zB ?_|refine zE ?_|refine zK M M M ?_|refine zY M M M M M ?_|refine yM M M M M M ?_|refine zJ M ?_)); exact h.o) : G:=f ⟨h⟩
section
variable (w0:World) (X:Hp) (b tb:Nat) (c:Cl) (S:Hp) (n:Nat)
theorem overing_spec (hS:kT w0 X b tb c S) (hZ:Sz n c) (hn:n+400≤100000000) (hF:xG c) (hW:dI c) :
  yO Tryz.prog w0 85 [pB b] (X+S) (fun r h'=>kP w0 X b tb (qF c) h'):=by
 have hdrop:=drop_spec w0 X b tb c S n hS hZ.bd (by omega)
 have hZ1:Sz n { kR c with coord:=none }:=hZ.clear
 have hF1:xG { kR c with coord:=none }:=hF.clear
 obtain ⟨ho1,ho2⟩:=over_facts hW
 refine zN Tryz.func85 M Tryz.ntmps85 Tryz.results85 M fun fr=>?_
 refine zaV ?_
 refine zX M M (zQ M M M) hdrop ?_
 clear hdrop hS
 rintro _ _ ⟨S1,hS1,rfl⟩
 obtain ⟨⟨vmem,vr0,vsets,vmr,vg,ve,vd,vrq,vop,vow,vw,vco,vou,van⟩,ps,hG,hE,hD,hR,hT,hK,hO,P,rfl⟩:=hS1
 have hP:xT w0 X b { kR c with coord:=none } ⟨vmem,vr0,vsets,vmr,vg,ve,vd,vrq,vop,vow,vw,.pointer none,vou,van⟩ tb ps hG hE hD hR hT 0 hO :=
  xT.mk P.mem P.rngs0 P.sets P.mr P.guess P.ended P.dbts P.reqs P.opn P.own P.txn P.waits ⟨rfl,rfl⟩ P.out P.ansd
 have hS2:kT w0 X b tb { kR c with coord:=none } _:=⟨_,ps,hG,hE,hD,hR,hT,0,hO,hP,rfl⟩
 have hvo:vow=wK c.own tb:=P.own
 have hvp:vop=wK c.opn tb:=P.opn
 have hcv:∃ q,vco=.pointer q∧q.isSome=c.coord.isSome:=by
  have:=P.coord
  rw [show (kR c).coord=c.coord from rfl] at this
  cases hc:c.coord with
  | none=>rw [hc] at this; exact ⟨_,this.1,rfl⟩
  | some k=>rw [hc] at this; obtain ⟨kb,e,-⟩:=this; exact ⟨_,e,rfl⟩
 obtain ⟨q,rfl,hq⟩:=hcv
 cases how:c.own
 ·rw [how] at hvo
  simp only [wK,cond_false] at hvo
  subst hvo
  rcases q with _|qa
  ·have hcs:c.coord.isSome=false:=hq.symm
   by_cases hk:c.kind=4∨c.kind=7
   ·have hop:c.opn=true:=(ho1 hk).resolve_left (by rw [how]; simp)
    have e0:qF c=uM { jZ { kR c with coord:=none } c.cur.id (xH c.cur) 2 with own:=true } 24:=by unfold qF; rw [if_pos hk,if_neg (by rw [hcs]; simp)]; rfl
    rw [e0]
    clear e0
    rw [hop] at hvp
    simp only [wK,cond_true] at hvp
    subst hvp
    have hT2:uL w0 X tb c.cur hT:=by
     rcases P.txn with h|h
     ·exact h
     ·exact absurd h (fun h=>by have h1:=h.1; have h2:=h.2.1; rw [show (kR c).own=c.own from rfl] at h2; rw [show (kR c).opn=c.opn from rfl] at h1; simp_all)
    have hca:=hZ.cur.asked
    have hcp:=hZ.cur.parts
    have hgs:=bJ w0 X tb c.cur hT hT2 (by omega)
    have hgl:=vF hF
    obtain ⟨vr,va,vw',ap,cp,hr,ha,hw,rfl,k1,k2,k3,k4⟩:=id hT2
    refine zbA ?_
    refine yG M M (kY M M) ?_
    refine zbO ?_
    refine yG M M (kZ M M) ?_
    refine zdX ?_
    rcases hk with hk|hk
    ·refine kD M M (yK M M) hk ?_
     repeat (first|refine zF ?_|refine zB ?_|refine zE ?_|refine zK M M M ?_|refine zP ?_|refine zJ M ?_|refine zI M ?_)
     refine yB [6,7] [0,1,2,3,4,5,6,7] (by kernel_rfl) M (by kernel_rfl) (by kernel_rfl) ?_
     refine zaF ?_
     refine xU M M M M (zQ M M M) hgs (xF.all _) ?_
     rintro _ _ ⟨k5,o5,rfl⟩
     obtain ⟨a5,c5,rfl⟩:=o5.shape
     refine ⟨zka,?_⟩
     skip
     have htd:=uR w0 (X+k5) b tb { kR c with coord:=none } _ n (hS2.mono M) hZ1.bd c.cur.id 2 (xH c.cur) a5 c5 (o5.rd (X:=0) (R:=X)) (by omega) hF1.groups hZ.cur.nums.1 i64_2
     refine xU M M M M (zQ M M M) htd (.drop (by kernel_rfl) .nil) ?_
     rintro _ _ ⟨S2,h2,rfl⟩
     refine ⟨trivial,?_⟩
     have hkp:=vB (uC { kR c with coord:=none } c.cur.id (xH c.cur) 2 hF1.groups)
     have ho3:(jZ { kR c with coord:=none } c.cur.id (xH c.cur) 2).own=c.own:=hkp.2.2.2.1
     have ho4:(jZ { kR c with coord:=none } c.cur.id (xH c.cur) 2).opn=c.opn:=hkp.2.2.2.2.1
     generalize jZ { kR c with coord:=none } c.cur.id (xH c.cur) 2=c2 at *
     obtain ⟨⟨um,ur0,us,umr,ug,ue,ud,urq,uop,uow,uw,uco,uou,uan⟩,qs,jG,jE,jD,jR,jT,jK,jO,P2,rfl⟩:=h2
     repeat (refine yI ?_)
     refine zbV ?_
     have hP3:xT w0 (X+k5) b { c2 with own:=true } ⟨um,ur0,us,umr,ug,ue,ud,urq,uop,pB tb,uw,uco,uou,uan⟩ tb qs jG jE jD jR jT jK jO :=
      xT.mk P2.mem P2.rngs0 P2.sets P2.mr P2.guess P2.ended P2.dbts P2.reqs P2.opn M (P2.txn.elim .inl fun h=>absurd h (fun h=>by have h1:=h.1; have h2:=h.2.1; rw [ho3] at h2; rw [ho4] at h1; simp_all)) P2.waits P2.coord P2.out P2.ansd
     refine zX M M (zQ M M M) (qO w0 (X+k5) b tb { c2 with own:=true } _ ⟨_,qs,jG,jE,jD,jR,jT,jK,jO,hP3,rfl⟩ 24 (fun _=>rfl)) ?_
     rintro _ _ hA
     repeat (refine zE ?_)
     exact ⟨[],_,_,trivial,hA.after.trans,yJ.out⟩
    ·refine yP M M (yK M M) (show ¬ c.kind=4 by omega) ?_
     refine zaG ?_
     refine kD M M (yK M M) hk ?_
     repeat (first|refine zF ?_|refine zB ?_|refine zE ?_|refine zK M M M ?_|refine zJ M ?_|refine zI M ?_)
     refine yB [6,7] [0,1,2,3,4,5,6,7] (by kernel_rfl) M (by kernel_rfl) (by kernel_rfl) ?_
     refine zaF ?_
     refine xU M M M M (zQ M M M) hgs (xF.all _) ?_
     rintro _ _ ⟨k5,o5,rfl⟩
     obtain ⟨a5,c5,rfl⟩:=o5.shape
     refine ⟨zka,?_⟩
     skip
     have htd:=uR w0 (X+k5) b tb { kR c with coord:=none } _ n (hS2.mono M) hZ1.bd c.cur.id 2 (xH c.cur) a5 c5 (o5.rd (X:=0) (R:=X)) (by omega) hF1.groups hZ.cur.nums.1 i64_2
     refine xU M M M M (zQ M M M) htd (.drop (by kernel_rfl) .nil) ?_
     rintro _ _ ⟨S2,h2,rfl⟩
     refine ⟨trivial,?_⟩
     have hkp:=vB (uC { kR c with coord:=none } c.cur.id (xH c.cur) 2 hF1.groups)
     have ho3:(jZ { kR c with coord:=none } c.cur.id (xH c.cur) 2).own=c.own:=hkp.2.2.2.1
     have ho4:(jZ { kR c with coord:=none } c.cur.id (xH c.cur) 2).opn=c.opn:=hkp.2.2.2.2.1
     generalize jZ { kR c with coord:=none } c.cur.id (xH c.cur) 2=c2 at *
     obtain ⟨⟨um,ur0,us,umr,ug,ue,ud,urq,uop,uow,uw,uco,uou,uan⟩,qs,jG,jE,jD,jR,jT,jK,jO,P2,rfl⟩:=h2
     repeat (refine yI ?_)
     refine zbV ?_
     have hP3:xT w0 (X+k5) b { c2 with own:=true } ⟨um,ur0,us,umr,ug,ue,ud,urq,uop,pB tb,uw,uco,uou,uan⟩ tb qs jG jE jD jR jT jK jO :=
      xT.mk P2.mem P2.rngs0 P2.sets P2.mr P2.guess P2.ended P2.dbts P2.reqs P2.opn M (P2.txn.elim .inl fun h=>absurd h (fun h=>by have h1:=h.1; have h2:=h.2.1; rw [ho3] at h2; rw [ho4] at h1; simp_all)) P2.waits P2.coord P2.out P2.ansd
     refine zX M M (zQ M M M) (qO w0 (X+k5) b tb { c2 with own:=true } _ ⟨_,qs,jG,jE,jD,jR,jT,jK,jO,hP3,rfl⟩ 24 (fun _=>rfl)) ?_
     rintro _ _ hA
     repeat (refine zE ?_)
     exact ⟨[],_,_,trivial,hA.after.trans,yJ.out⟩
   ·have e0:qF c=if c.kind=2 then lostF { kR c with coord:=none } 0 else if c.kind=8 then jC { kR c with coord:=none } 11 else jC { kR c with coord:=none } 25:=by unfold qF; rw [if_neg hk]; rfl
    rw [e0]
    clear e0
    obtain ⟨vq,rfl⟩:∃ z,vop=.pointer z:=⟨_,hvp⟩
    refine zbA ?_
    refine yG M M (kY M M) ?_
    refine zbO ?_
    refine yG M M (kZ M M) ?_
    refine zdX ?_
    refine yP M M (yK M M) (fun h=>hk (.inl (show c.kind=4 from h))) ?_
    refine zaG ?_
    refine yP M M (yK M M) (fun h=>hk (.inr (show c.kind=7 from h))) ?_
    refine zaA ?_
    refine yF M M (yK M M) (fun h2=>?_) (fun h2=>?_)
    ·rw [if_pos (show c.kind=2 from h2)]
     refine zaU ?_
     have hca:=hZ.cur.asked
     have hcp:=hZ.cur.parts
     refine zX M M (zQ M M M) (losing_spec w0 X b tb { kR c with coord:=none } _ n hS2 hZ1.bd hF1 (by show n+c.cur.parts.length+c.cur.asked.length+10≤_; omega) (ho2 h2) hZ.cur.nums.1 0) ?_
     rintro _ _ hA
     repeat (refine zE ?_)
     exact ⟨[],_,_,trivial,hA,yJ.out⟩
    rw [if_neg (show ¬ c.kind=2 from h2)]
    refine zaA ?_
    refine yF M M (yK M M) (fun h3=>?_) (fun h3=>?_)
    ·rw [if_pos (show c.kind=8 from h3)]
     refine zaU ?_
     refine zX M M (zQ M M M) (xL w0 X b tb { kR c with coord:=none } _ hS2 11) ?_
     rintro _ _ hA
     repeat (refine zE ?_)
     exact ⟨[],_,_,trivial,hA.after,yJ.out⟩
    ·rw [if_neg (show ¬ c.kind=8 from h3)]
     refine zaG ?_
     refine zX M M (zQ M M M) (xL w0 X b tb { kR c with coord:=none } _ hS2 25) ?_
     rintro _ _ hA
     repeat (refine zE ?_)
     exact ⟨[],_,_,trivial,hA.after,yJ.out⟩
  ·have hcs:c.coord.isSome=true:=hq.symm
   have hk:c.kind=6∨c.kind=9:=by
    rcases hW.2.2 with ⟨_,e,_⟩|⟨_,_,e,_⟩|⟨_,e,_,_⟩|⟨_,_,_,_,_,k⟩
    ·rw [e] at hcs; cases hcs
    ·rw [e] at hcs; cases hcs
    ·rw [e] at how; cases how
    ·exact k
   have e0:qF c=jC { kR c with coord:=none } 25:=by unfold qF; rw [if_neg (by omega),if_neg (by omega),if_neg (by omega)]; rfl
   rw [e0]
   clear e0
   obtain ⟨vq,rfl⟩:∃ z,vop=.pointer z:=⟨_,hvp⟩
   refine zbA ?_
   refine yG M M (kY M M) ?_
   refine zbO ?_
   refine yG M M (kZ M M) ?_
   refine zdX ?_
   refine yP M M (yK M M) (show ¬ c.kind=4 by omega) ?_
   refine zaG ?_
   refine yP M M (yK M M) (show ¬ c.kind=7 by omega) ?_
   refine zaA ?_
   refine yP M M (yK M M) (show ¬ c.kind=2 by omega) ?_
   refine zaA ?_
   refine yP M M (yK M M) (show ¬ c.kind=8 by omega) ?_
   refine zaG ?_
   refine zX M M (zQ M M M) (xL w0 X b tb { kR c with coord:=none } _ hS2 25) ?_
   rintro _ _ hA
   repeat (refine zE ?_)
   exact ⟨[],_,_,trivial,hA.after,yJ.out⟩
 ·rw [how] at hvo
  simp only [wK,cond_true] at hvo
  subst hvo
  have hk:c.kind=4∨c.kind=7:=by
   rcases hW.2.2 with ⟨_,_,w,_,k⟩|⟨_,_,_,e⟩|⟨_,_,_,k⟩|⟨_,_,e,_⟩
   ·cases w with
    | read x=>have:=k.2.2; rw [how] at this; cases this
    | prep=>exact .inl k.1
    | snap=>exact .inr k.1
    | kept x=>have:=k.2; rw [how] at this; cases this
    | again x=>have:=k.2; rw [how] at this; cases this
   ·rw [how] at e; cases e
   ·rcases k with k|k
    ·exact .inl k.1
    ·exact .inr k.1
   ·rw [how] at e; cases e
  rcases q with _|qa
  ·have hcs:c.coord.isSome=false:=hq.symm
   have e0:qF c=uM { jZ { kR c with coord:=none } c.cur.id (xH c.cur) 2 with own:=true } 24:=by unfold qF; rw [if_pos hk,if_neg (by rw [hcs]; simp)]; rfl
   rw [e0]
   clear e0
   have hT2:uL w0 X tb c.cur hT:=by
    rcases P.txn with h|h
    ·exact h
    ·exact absurd h (fun h=>by have h1:=h.1; have h2:=h.2.1; rw [show (kR c).own=c.own from rfl] at h2; rw [show (kR c).opn=c.opn from rfl] at h1; simp_all)
   have hca:=hZ.cur.asked
   have hcp:=hZ.cur.parts
   have hgs:=bJ w0 X tb c.cur hT hT2 (by omega)
   have hgl:=vF hF
   obtain ⟨vr,va,vw',ap,cp,hr,ha,hw,rfl,k1,k2,k3,k4⟩:=id hT2
   refine zbA ?_
   refine yG M M (kY M M) ?_
   refine zbO ?_
   refine yG M M (kZ M M) ?_
   refine zfD ?_
   rcases hk with hk|hk
   ·refine kD M M (yK M M) hk ?_
    repeat (first|refine zF ?_|refine zB ?_|refine zE ?_|refine zK M M M ?_|refine zP ?_|refine zJ M ?_|refine zI M ?_)
    refine yB [6,7] [0,1,2,3,4,5,6,7] (by kernel_rfl) M (by kernel_rfl) (by kernel_rfl) ?_
    refine zaF ?_
    refine xU M M M M (zQ M M M) hgs (xF.all _) ?_
    rintro _ _ ⟨k5,o5,rfl⟩
    obtain ⟨a5,c5,rfl⟩:=o5.shape
    refine ⟨zka,?_⟩
    skip
    have htd:=uR w0 (X+k5) b tb { kR c with coord:=none } _ n (hS2.mono M) hZ1.bd c.cur.id 2 (xH c.cur) a5 c5 (o5.rd (X:=0) (R:=X)) (by omega) hF1.groups hZ.cur.nums.1 i64_2
    refine xU M M M M (zQ M M M) htd (.drop (by kernel_rfl) .nil) ?_
    rintro _ _ ⟨S2,h2,rfl⟩
    refine ⟨trivial,?_⟩
    have hkp:=vB (uC { kR c with coord:=none } c.cur.id (xH c.cur) 2 hF1.groups)
    have ho3:(jZ { kR c with coord:=none } c.cur.id (xH c.cur) 2).own=c.own:=hkp.2.2.2.1
    have ho4:(jZ { kR c with coord:=none } c.cur.id (xH c.cur) 2).opn=c.opn:=hkp.2.2.2.2.1
    generalize jZ { kR c with coord:=none } c.cur.id (xH c.cur) 2=c2 at *
    obtain ⟨⟨um,ur0,us,umr,ug,ue,ud,urq,uop,uow,uw,uco,uou,uan⟩,qs,jG,jE,jD,jR,jT,jK,jO,P2,rfl⟩:=h2
    repeat (refine yI ?_)
    refine zbV ?_
    have hP3:xT w0 (X+k5) b { c2 with own:=true } ⟨um,ur0,us,umr,ug,ue,ud,urq,uop,pB tb,uw,uco,uou,uan⟩ tb qs jG jE jD jR jT jK jO :=
     xT.mk P2.mem P2.rngs0 P2.sets P2.mr P2.guess P2.ended P2.dbts P2.reqs P2.opn M (P2.txn.elim .inl fun h=>absurd h (fun h=>by have h1:=h.1; have h2:=h.2.1; rw [ho3] at h2; rw [ho4] at h1; simp_all)) P2.waits P2.coord P2.out P2.ansd
    refine zX M M (zQ M M M) (qO w0 (X+k5) b tb { c2 with own:=true } _ ⟨_,qs,jG,jE,jD,jR,jT,jK,jO,hP3,rfl⟩ 24 (fun _=>rfl)) ?_
    rintro _ _ hA
    repeat (refine zE ?_)
    exact ⟨[],_,_,trivial,hA.after.trans,yJ.out⟩
   ·refine yP M M (yK M M) (show ¬ c.kind=4 by omega) ?_
    refine zaG ?_
    refine kD M M (yK M M) hk ?_
    repeat (first|refine zF ?_|refine zB ?_|refine zE ?_|refine zK M M M ?_|refine zJ M ?_|refine zI M ?_)
    refine yB [6,7] [0,1,2,3,4,5,6,7] (by kernel_rfl) M (by kernel_rfl) (by kernel_rfl) ?_
    refine zaF ?_
    refine xU M M M M (zQ M M M) hgs (xF.all _) ?_
    rintro _ _ ⟨k5,o5,rfl⟩
    obtain ⟨a5,c5,rfl⟩:=o5.shape
    refine ⟨zka,?_⟩
    skip
    have htd:=uR w0 (X+k5) b tb { kR c with coord:=none } _ n (hS2.mono M) hZ1.bd c.cur.id 2 (xH c.cur) a5 c5 (o5.rd (X:=0) (R:=X)) (by omega) hF1.groups hZ.cur.nums.1 i64_2
    refine xU M M M M (zQ M M M) htd (.drop (by kernel_rfl) .nil) ?_
    rintro _ _ ⟨S2,h2,rfl⟩
    refine ⟨trivial,?_⟩
    have hkp:=vB (uC { kR c with coord:=none } c.cur.id (xH c.cur) 2 hF1.groups)
    have ho3:(jZ { kR c with coord:=none } c.cur.id (xH c.cur) 2).own=c.own:=hkp.2.2.2.1
    have ho4:(jZ { kR c with coord:=none } c.cur.id (xH c.cur) 2).opn=c.opn:=hkp.2.2.2.2.1
    generalize jZ { kR c with coord:=none } c.cur.id (xH c.cur) 2=c2 at *
    obtain ⟨⟨um,ur0,us,umr,ug,ue,ud,urq,uop,uow,uw,uco,uou,uan⟩,qs,jG,jE,jD,jR,jT,jK,jO,P2,rfl⟩:=h2
    repeat (refine yI ?_)
    refine zbV ?_
    have hP3:xT w0 (X+k5) b { c2 with own:=true } ⟨um,ur0,us,umr,ug,ue,ud,urq,uop,pB tb,uw,uco,uou,uan⟩ tb qs jG jE jD jR jT jK jO :=
     xT.mk P2.mem P2.rngs0 P2.sets P2.mr P2.guess P2.ended P2.dbts P2.reqs P2.opn M (P2.txn.elim .inl fun h=>absurd h (fun h=>by have h1:=h.1; have h2:=h.2.1; rw [ho3] at h2; rw [ho4] at h1; simp_all)) P2.waits P2.coord P2.out P2.ansd
    refine zX M M (zQ M M M) (qO w0 (X+k5) b tb { c2 with own:=true } _ ⟨_,qs,jG,jE,jD,jR,jT,jK,jO,hP3,rfl⟩ 24 (fun _=>rfl)) ?_
    rintro _ _ hA
    repeat (refine zE ?_)
    exact ⟨[],_,_,trivial,hA.after.trans,yJ.out⟩
  ·have hcs:c.coord.isSome=true:=hq.symm
   have e0:qF c=uM { kR c with coord:=none,doubts:=c.doubts++[dbtF c],own:=true } 25:=by unfold qF; rw [if_pos hk,if_pos hcs]; rfl
   rw [e0]
   clear e0
   have hT2:uL w0 X tb c.cur hT:=by
    rcases P.txn with h|h
    ·exact h
    ·exact absurd h (fun h=>by have h1:=h.1; have h2:=h.2.1; rw [show (kR c).own=c.own from rfl] at h2; rw [show (kR c).opn=c.opn from rfl] at h1; simp_all)
   have hca:=hZ.cur.asked
   have hcp:=hZ.cur.parts
   have hgs:=bJ w0 X tb c.cur hT hT2 (by omega)
   have hgl:=vF hF
   obtain ⟨vr,va,vw',ap,cp,hr,ha,hw,rfl,k1,k2,k3,k4⟩:=id hT2
   refine zbA ?_
   refine yG M M (kY M M) ?_
   refine zbO ?_
   refine yG M M (kZ M M) ?_
   refine zfD ?_
   rcases hk with hk|hk
   ·refine kD M M (yK M M) hk ?_
    obtain ⟨ad,cd,hvd⟩:=P.dbts.shape
    simp only at hvd
    subst hvd
    have hdl:=hZ.db.1
    repeat (first|refine zF ?_|refine zB ?_|refine zE ?_|refine zK M M M ?_|refine zP ?_|refine zJ M ?_)
    refine yB [14,16,17,20] [0,1,2,3,4,5,6,7,8,9,10,11,12,13,14,15,16,17,18,19,20] (by kernel_rfl) M (by kernel_rfl) (by kernel_rfl) ?_
    refine zaF ?_
    refine xU M M M M (zQ M M M) hgs (xF.all _) ?_
    rintro _ _ ⟨k5,o5,rfl⟩
    obtain ⟨a5,c5,rfl⟩:=o5.shape
    refine ⟨zka,?_⟩
    have hnew:Rep.rd w0 (X+k5) (dbtF c) [.int .i64 c.cur.id,.slice ap c.cur.parts.length cp,.slice a5 (xH c.cur).length c5]:=⟨ap,cp,a5,c5,rfl,k4.mono M,o5.rd (X:=0) (R:=X)⟩
    repeat (refine yD M M M M (wJ (vs:=[_,_,_]) (cells:=[_,_,_]) M M) ?_)
    refine xS M M M M (xV (vs:=[_]) (cells:=[_,_,_]) M M M M) (xF.all _) ?_
    rintro _ _ ⟨bn,rfl,rfl⟩
    refine ⟨zka,?_⟩
    skip
    have hOd:OwL w0 (X+k5) c.doubts _ hD:=P.dbts.mono M
    refine xS M M M M (xR (X:=X+k5) (ns:=[dbtF c]) (h:=hD) M M hOd (wQ M) (kU.one hnew) M M M M M (by rw [List.length_singleton]; omega)) (xF.all _) ?_
    rintro v5 _ ⟨h5,ho5,rfl⟩
    obtain ⟨a6,c6,rfl⟩:=ho5.shape
    refine ⟨zka,?_⟩
    refine zaO ?_
    refine xS M M M M (kA M M M M M (c':=(_::_::_::_::_::_::_::_::_::_::_::_::_::_::_::_::_::_::_::_::_::_::_::_::_::_::_::_::_::_::_::_::_::_::_::_::_::_::[])) M) (.keep (.keep (.drop (by kernel_rfl) .nil))) ?_
    rintro _ _ rfl
    refine ⟨zka,?_⟩
    repeat (refine yI ?_)
    refine zbV ?_
    have P3:=hP.mono (L:=X+k5) (R:=k5) M
    have hP4:xT w0 (X+k5) b { kR c with coord:=none,doubts:=c.doubts++[dbtF c],own:=true } ⟨vmem,vr0,vsets,vmr,vg,ve,.slice a6 _ c6,vrq,vop,pB tb,vw,.pointer none,vou,van⟩ tb ps hG hE h5 hR _ 0 hO :=
     xT.mk P3.mem P3.rngs0 P3.sets P3.mr P3.guess P3.ended ho5 P3.reqs P3.opn M (.inl (hT2.mono M)) P3.waits ⟨rfl,rfl⟩ P3.out P3.ansd
    refine zX M M (zQ M M M) (qO w0 (X+k5) b tb { kR c with coord:=none,doubts:=c.doubts++[dbtF c],own:=true } _ ⟨_,ps,hG,hE,h5,hR,_,0,hO,hP4,rfl⟩ 25 (fun _=>rfl)) ?_
    rintro _ _ hA
    repeat (refine zE ?_)
    exact ⟨[],_,_,trivial,hA.after.trans,yJ.out⟩
   ·refine yP M M (yK M M) (show ¬ c.kind=4 by omega) ?_
    refine zaG ?_
    refine kD M M (yK M M) hk ?_
    obtain ⟨ad,cd,hvd⟩:=P.dbts.shape
    simp only at hvd
    subst hvd
    have hdl:=hZ.db.1
    refine zaY ?_
    refine yB [14,16,17,20] [0,1,2,3,4,5,6,7,8,9,10,11,12,13,14,15,16,17,18,19,20] (by kernel_rfl) M (by kernel_rfl) (by kernel_rfl) ?_
    refine zaF ?_
    refine xU M M M M (zQ M M M) hgs (xF.all _) ?_
    rintro _ _ ⟨k5,o5,rfl⟩
    obtain ⟨a5,c5,rfl⟩:=o5.shape
    refine ⟨zka,?_⟩
    have hnew:Rep.rd w0 (X+k5) (dbtF c) [.int .i64 c.cur.id,.slice ap c.cur.parts.length cp,.slice a5 (xH c.cur).length c5]:=⟨ap,cp,a5,c5,rfl,k4.mono M,o5.rd (X:=0) (R:=X)⟩
    repeat (refine yD M M M M (wJ (vs:=[_,_,_]) (cells:=[_,_,_]) M M) ?_)
    refine xS M M M M (xV (vs:=[_]) (cells:=[_,_,_]) M M M M) (xF.all _) ?_
    rintro _ _ ⟨bn,rfl,rfl⟩
    refine ⟨zka,?_⟩
    skip
    have hOd:OwL w0 (X+k5) c.doubts _ hD:=P.dbts.mono M
    refine xS M M M M (xR (X:=X+k5) (ns:=[dbtF c]) (h:=hD) M M hOd (wQ M) (kU.one hnew) M M M M M (by rw [List.length_singleton]; omega)) (xF.all _) ?_
    rintro v5 _ ⟨h5,ho5,rfl⟩
    obtain ⟨a6,c6,rfl⟩:=ho5.shape
    refine ⟨zka,?_⟩
    refine zaO ?_
    refine xS M M M M (kA M M M M M (c':=(_::_::_::_::_::_::_::_::_::_::_::_::_::_::_::_::_::_::_::_::_::_::_::_::_::_::_::_::_::_::_::_::_::_::_::_::_::_::[])) M) (.keep (.keep (.drop (by kernel_rfl) .nil))) ?_
    rintro _ _ rfl
    refine ⟨zka,?_⟩
    repeat (refine yI ?_)
    refine zbV ?_
    have P3:=hP.mono (L:=X+k5) (R:=k5) M
    have hP4:xT w0 (X+k5) b { kR c with coord:=none,doubts:=c.doubts++[dbtF c],own:=true } ⟨vmem,vr0,vsets,vmr,vg,ve,.slice a6 _ c6,vrq,vop,pB tb,vw,.pointer none,vou,van⟩ tb ps hG hE h5 hR _ 0 hO :=
     xT.mk P3.mem P3.rngs0 P3.sets P3.mr P3.guess P3.ended ho5 P3.reqs P3.opn M (.inl (hT2.mono M)) P3.waits ⟨rfl,rfl⟩ P3.out P3.ansd
    refine zX M M (zQ M M M) (qO w0 (X+k5) b tb { kR c with coord:=none,doubts:=c.doubts++[dbtF c],own:=true } _ ⟨_,ps,hG,hE,h5,hR,_,0,hO,hP4,rfl⟩ 25 (fun _=>rfl)) ?_
    rintro _ _ hA
    repeat (refine zE ?_)
    exact ⟨[],_,_,trivial,hA.after.trans,yJ.out⟩
end
theorem at_openI {w0:World} {bk:Nat} (xs:List Int) (spare:List Value) {i:Nat} (hi:i<xs.length):At w0 (pt bk (.cells (xs.map (Value.int .i64)++spare).toArray 3 (0,0))) bk (0+i*1) [.int .i64 xs[i]]:=by
 intro j u hu
 match j,hu with
 | 0,hu =>
  obtain rfl:Value.int .i64 xs[i]=u:=by simpa using hu
  exact zS (R:=0) (by simpa using cells_getI xs spare hi)
theorem agains_snoc (c:Cl) (l:List Nat) (i:Nat):(l++[i]).foldl kO c=kO (l.foldl kO c) i:=by rw [List.foldl_append]; rfl
theorem again_some {c:Cl} {i:Nat} {r:Rq} (hr:c.reqs[i]?=some r):kO c i=if 0≤r.sent∧4≤c.clock - r.sent then wZ (vQ c r.group (vO c r.group % c.nodes+1)) i else c:=by unfold kO; rw [hr]
theorem again_core (c:Cl) (i:Nat):(kO c i).reqs.map vS=c.reqs.map vS∧(kO c i).clock=c.clock∧(kO c i).nodes=c.nodes∧(kO c i).out.length≤c.out.length+1∧(kO c i).guess.length=c.guess.length:=by
 unfold kO
 split
 ·exact ⟨rfl,rfl,rfl,Nat.le_succ _,rfl⟩
 ·split
  ·rename_i r hr hc
   obtain ⟨o,q,e,e1⟩:=qN (vQ c r.group (vO c r.group % c.nodes+1)) i
   have ho:=sendF_out (vQ c r.group (vO c r.group % c.nodes+1)) i
   rw [e] at ho ⊢
   exact ⟨e1,rfl,rfl,ho,by show (c.guess.set _ _).length=_; rw [List.length_set]⟩
  ·exact ⟨rfl,rfl,rfl,Nat.le_succ _,rfl⟩
theorem agains_core :∀ (l:List Nat) (c:Cl),(l.foldl kO c).reqs.map vS=c.reqs.map vS∧(l.foldl kO c).clock=c.clock∧(l.foldl kO c).nodes=c.nodes∧(l.foldl kO c).out.length≤c.out.length+l.length∧(l.foldl kO c).guess.length=c.guess.length
 | [],c=>⟨rfl,rfl,rfl,Nat.le_refl _,rfl⟩
 | i::l,c=>by
  obtain ⟨a1,a2,a3,a4,a5⟩:=again_core c i
  obtain ⟨b1,b2,b3,b4,b5⟩:=agains_core l (kO c i)
  rw [List.length_cons]
  exact ⟨b1.trans a1,b2.trans a2,b3.trans a3,by show ((l.foldl kO (kO c i)).out.length)≤_; omega,b5.trans a5⟩
def tick2F (c:Cl):Cl:=if c.coord.isSome=true∧c.own=false∧20≤c.clock - c.started then wM c else c
def tick3F (c:Cl):Cl:=if c.busy=true∧60≤c.clock - c.since then qF c else c
theorem tickF_eq (c:Cl):tickF c=(dO (tick3F (tick2F ((xA c.reqs).foldl kO (jM c)))),endF (tick3F (tick2F ((xA c.reqs).foldl kO (jM c))))):=rfl
theorem tick2F_ok {c:Cl} {n:Nat} (ha:Any c) (hf:xG c) (hz:Sz n c):Any (tick2F c)∧xG (tick2F c)∧Sz (n+29) (tick2F c):=by
 unfold tick2F
 split
 ·rename_i hc
  rcases ha with hw|hr
  ·exact ⟨.inl (gC hw hf hc.1).1,(gC hw hf hc.1).2,hz.start⟩
  ·rw [hr.2.2.2.2.1] at hc; cases hc.1
 ·exact ⟨ha,hf,hz.mono (by omega)⟩
theorem tick3F_ok {c:Cl} {n:Nat} (ha:Any c) (hf:xG c) (hz:Sz n c) (hn:n+10≤100000000):xG (tick3F c)∧Sz (n+10) (tick3F c):=by
 unfold tick3F
 split
 ·rename_i hc
  rcases ha with hw|hr
  ·exact ⟨(overF_said hf hw).2,hz.over hn hf⟩
  ·rw [hr.1] at hc; cases hc.1
 ·exact ⟨hf,hz.mono (by omega)⟩
section
variable (w0:World) (X:Hp) (b tb:Nat) (c:Cl) (S:Hp) (n:Nat)
theorem ticking_spec (hS:kT w0 X b tb c S) (hZ:Sz n c) (hn:n+500≤100000000) (hF:xG c) (hA:Any c) :
  yO Tryz.prog w0 36 [pB b] (X+S) (fun r h'=>Fin w0 X b tb (tickF c).1 (tickF c).2 r h'):=by
 have hZ0:=hZ.ticked
 have hF0:xG (jM c):=⟨hF.guess,hF.reqs,hF.rngs,hF.parts,hF.asked,hF.doubts,hF.coord,hF.nmem.1,by have:=hF.nmem.2; unfold jM; simp only; omega⟩
 have hA0:Any (jM c):=hA
 have hck:=hZ.bd.clock
 obtain ⟨⟨vmem,vr0,vsets,vmr,vg,ve,vd,vrq,vop,vow,vw,vco,vou,van⟩,ps,hG,hE,hD,hR,hT,hK,hO,P,rfl⟩:=hS
 obtain ⟨r1,r2,r3,r4,rfl⟩:=P.reqs
 have hP0:xT w0 X b { c with clock:=c.clock+1 } ⟨vmem,vr0,vsets,vmr,vg,ve,vd,vrq,vop,vow,vw,vco,vou,van⟩ tb ps hG hE hD (r1+r2) hT hK hO :=
  xT.mk P.mem P.rngs0 P.sets P.mr P.guess P.ended P.dbts P.reqs P.opn P.own P.txn P.waits P.coord P.out P.ansd
 have hgr:∀ r∈(jM c).reqs,r.group<5:=fun r hr=>(hF0.reqs (vS r) (List.mem_map.2 ⟨r,hr,rfl⟩)).1
 have hrl:=hZ.bd.reqs
 have hfirst:=firsts_spec w0 X b tb { c with clock:=c.clock+1 } _ ps r1 r2 hG hE hD hT hK hO hP0 r3 r4 (by show c.reqs.length≤_; omega) hgr
 have hS0:CliP w0 X b tb ps (jM c) (cliC b (clL { c with clock:=c.clock+1 } ⟨vmem,vr0,vsets,vmr,vg,ve,vd,vrq,vop,vow,vw,vco,vou,van⟩)+(hG+(hE+(hD+((r1+r2)+(hT+(hK+hO))))))):=⟨_,hG,hE,hD,_,hT,hK,hO,hP0,rfl⟩
 have hlp:=r4.length
 have hll:(wE ps c.reqs).length=(xA c.reqs).length:=by simp [wE]
 have hfl:=firstF_len c.reqs
 have h5:=firstF_five (l:=c.reqs) hgr
 rw [tickF_eq]
 obtain ⟨a1,f1,-⟩:=again_ok (xA c.reqs) hA0 hF0
 have z1:Sz (n+6) ((xA c.reqs).foldl kO (jM c)):=(Sz.agains _ hZ0).mono (by omega)
 refine zN Tryz.func36 M Tryz.ntmps36 Tryz.results36 M fun fr=>?_
 repeat (first|refine zF ?_|refine zB ?_|refine zE ?_|refine zK M M M ?_|refine zY M M M M M ?_|refine yM M M M M M ?_|refine yU M M (by omega) (by omega) M M ?_|refine xD M M M (c':=(_::_::_::_::_::_::_::_::_::_::_::_::_::_::_::_::_::_::_::_::_::_::_::_::_::_::_::_::_::_::_::_::_::_::_::_::_::_::[])) M M M M ?_|refine xK (c:=[_,_,_]) M M M (fun _=>?_))
 rename_i b3
 refine zX M M (zQ M M M) hfirst ?_
 rintro vf _ ⟨hf,hof,rfl⟩
 obtain ⟨af,cf,rfl⟩:=hof.shape
 have hrd:RdL w0 hf (.slice af (wE ps c.reqs).length cf) (wE ps c.reqs):=hof.rdh
 refine zdH ?_
 refine yN (xA c.reqs).length (fun k g L=>∃ (E S' R:Hp),g=[(0,pB b),(3,pB b3),(15,.slice af (wE ps c.reqs).length cf),(16,.int .i64 (xA c.reqs).length),(17,.int .i64 k)]∧CliP w0 (X+E) b tb ps (((xA c.reqs).take k).foldl kO (jM c)) S' ∧
  L=X+E+S'+hf+pt b3 (.cells #[.int .i64 0,.int .i64 0,.slice none 0 0] 37 (0,0))+fr+R) _
  ⟨0,_,0,by rw [← hll],by rw [yA]; exact hS0,by rw [yA,yA]; exact yJ.out⟩ zsb ?_
 clear hP0 P hS0 r3 r4 hfirst
 rintro k g L hk ⟨E,S',R,rfl,hS',rfl⟩
 refine zaH ?_
 refine yF M M (yS M M) (fun n1=>?_) (fun n1=>?_)
 ·have hx:k<(xA c.reqs).length:=by omega
  obtain ⟨bq,oq,rfl,e,rfl,hat⟩:=hrd.at (i:=k) (by omega)
  have hi:=qX (List.getElem_mem hx)
  have hpk:ps[(xA c.reqs)[k]]?=some (wE ps c.reqs)[k]:=by
   simp only [wE,List.getElem_map,List.getD_eq_getElem?_getD]
   rw [List.getElem?_eq_getElem (by omega)]; rfl
  have hsm:=agains_snoc (jM c) ((xA c.reqs).take k) ((xA c.reqs)[k])
  rw [← List.take_succ_eq_append_getElem hx] at hsm
  obtain ⟨k1,k2,k3,k4,k5⟩:=agains_core ((xA c.reqs).take k) (jM c)
  obtain ⟨r',hr',hcr⟩:=core_get k1 (show (jM c).reqs[(xA c.reqs)[k]]?=some c.reqs[(xA c.reqs)[k]] from List.getElem?_eq_getElem hi)
  have hg':r'.group<5:=by
   have:=hgr _ (List.getElem_mem hi)
   have e:=congrArg Core.group hcr
   simp only [vS] at e; omega
  have hz':OpSz r'.o:=by
   have:=hZ.bd.ops (vS c.reqs[(xA c.reqs)[k]]) (List.mem_map.2 ⟨_,List.getElem_mem hi,rfl⟩)
   rw [← hcr] at this; exact this
  have hZk:=Sz.agains ((xA c.reqs).take k) hZ0
  rw [List.length_take] at hZk
  have hsent:=hZk.sent r' (List.mem_iff_getElem?.2 ⟨_,hr'⟩)
  have hclk:=hZk.bd.clock
  have hnod:=hZk.num.2.2.2.2.1
  have hgs:=guessAt_sz hZk r'.group
  have hout:=hZk.bd.out
  have hag:=again_some hr'
  rw [hag] at hsm
  clear hag k1 k2 k3 k4
  have hgl:(((xA c.reqs).take k).foldl kO (jM c)).guess.length=5:=by rw [k5]; exact hF.guess
  clear k5
  generalize (wE ps c.reqs)[k]=pk at hpk hat
  generalize ((xA c.reqs).take k).foldl kO (jM c)=c1 at *
  generalize (xA c.reqs)[k]=i at *
  obtain ⟨⟨um,ur0,us,umr,ug,ue,ud,urq,uop,uow,uw,uco,uou,uan⟩,jG,jE,jD,jR,jT,jK,jO,P',rfl⟩:=id hS'
  obtain ⟨s1,s2,s3,s4,rfl⟩:=P'.reqs
  obtain ⟨bk,capg,spg,hvg,rfl,hgset⟩:=P'.guess.openI (by intro e; rw [e] at hgl; cases hgl)
  simp only at hvg
  subst hvg
  have hg5:r'.group<c1.guess.length:=by rw [hgl]; exact hg'
  have hgat:=at_openI (w0:=w0) (bk:=bk) c1.guess spg hg5
  have hge:c1.guess[r'.group]=vO c1 r'.group:=by unfold vO; rw [List.getD_eq_getElem?_getD,List.getElem?_eq_getElem hg5]; rfl
  rw [hge] at hgat
  obtain ⟨p',h1,h2,e1,⟨b1,d1,b2,d2,b4,d4,b6,d6,hv,rfl,q1,q2,q3,q4,hh⟩,rfl,-,-⟩:=s4.get hr'
  obtain rfl:p'=pk:=by rw [hpk] at e1; exact (Option.some.inj e1).symm
  refine zaT ?_
  refine yB [] [0,1,2,3,4,5,6,7,8,9,10,11,12,13,14,15,16] (by kernel_rfl) M (by kernel_rfl) (by kernel_rfl) ?_
  refine zaF ?_
  refine jY M M M M (kQ M M) (fun n2=>?_) (fun n2=>?_)
  ·refine zaF ?_
   refine yD M M M M (pv_sub M M (by omega) (by omega)) ?_
   skip
   refine jY M M M M (kQ M M) (fun n3=>?_) (fun n3=>?_)
   ·rw [if_pos ⟨by omega,by omega⟩] at hsm
    refine zaD ?_
    repeat (first|refine zF ?_|refine zJ M ?_)
    refine yB [26] [0,1,2,3,4,5,6,7,8,9,10,11,12,13,14,15,16,17,18,19,20,21,22,23,24,25,26] (by kernel_rfl) M (by kernel_rfl) (by kernel_rfl) ?_
    repeat (first|refine yH M M M M M ?_|refine yD M M M M (zZ M M M) ?_|refine yQ M M M M (yE M) (zG M (zS M)) ?_|refine gY M M M (by omega) M M M ?_|refine W_at M M (by assumption) M M M M M ?_)
    refine yD M M M M (pv_rem_nn M M (by omega) (by omega)) ?_
    have hm1:=Int.emod_nonneg (vO c1 r'.group) (b:=c1.nodes) (by omega)
    have hm2:=Int.emod_lt_of_pos (vO c1 r'.group) (b:=c1.nodes) (by omega)
    generalize vO c1 r'.group % c1.nodes=gm at *
    repeat (first|refine yD M M M M (dE M M (by omega) (by omega)) ?_|refine gY M M M (by omega) M M M ?_)
    refine xS M M M M (kA (c:=c1.guess.map (Value.int .i64)++spg) M M M M (cells_getI c1.guess spg hg5) (cells_setI c1.guess spg hg5 (gm+1))) (.keep (.drop (by kernel_rfl) (.keep (.keep (.keep (.keep .nil)))))) ?_
    rintro _ _ rfl
    refine ⟨zka,?_⟩
    repeat (refine yI ?_)
    refine zbQ ?_
    have hPg:xT w0 (X+E) b { c1 with guess:=c1.guess.set r'.group (gm+1) } ⟨um,ur0,us,umr,.slice (some ⟨bk,0,none⟩) c1.guess.length capg,ue,ud,urq,uop,uow,uw,uco,uou,uan⟩ tb ps _ jE jD _ jT jK jO :=
     xT.mk P'.mem P'.rngs0 P'.sets P'.mr (hgset (c1.guess.set r'.group (gm+1)) (by simp)) P'.ended P'.dbts P'.reqs P'.opn P'.own P'.txn P'.waits P'.coord P'.out P'.ansd
    refine zX M M (zQ M M M) (sending_spec w0 (X+E) b tb { c1 with guess:=c1.guess.set r'.group (gm+1) } _ ps ⟨_,_,jE,jD,_,jT,jK,jO,hPg,rfl⟩ (by show c1.out.length≤_; omega) i r' hr' p' e1 hg' (by show (c1.guess.set r'.group (gm+1)).length=5; rw [List.length_set]; exact hgl) hz') ?_
    rintro _ _ ⟨E2,S2,h6,rfl⟩
    refine zaI ?_
    exact ⟨hx,_,zsb,E+E2,S2,_,rfl,by rw [hsm,← yZ]; exact h6,yJ.out⟩
   ·rw [if_neg (fun h=>n3 (by omega))] at hsm
    refine zaD ?_
    refine zaJ ?_
    exact ⟨hx,_,zsb,E,_,_,rfl,by rw [hsm]; exact hS',yJ.out⟩
  ·rw [if_neg (fun h=>n2 (by omega))] at hsm
   refine zaR ?_
   refine zaJ ?_
   exact ⟨hx,_,zsb,E,_,_,rfl,by rw [hsm]; exact hS',yJ.out⟩
 ·obtain rfl:k=(xA c.reqs).length:=by omega
  rw [List.take_length] at hS'
  generalize (xA c.reqs).foldl kO (jM c)=c1 at *
  have hS1:=hS'.cli
  clear hS'
  obtain ⟨a2,f2,z2⟩:=tick2F_ok a1 f1 z1
  obtain ⟨f3,z3⟩:=tick3F_ok a2 f2 z2 (by omega)
  refine zbU ?_
  refine jP (fun g' L'=>Sub g' [(0,pB b),(3,pB b3),(91,.bool (decide (c1.coord.isSome=true∧c1.own=false∧20≤c1.clock - c1.started)))]∧L'=X+E+S'+hf+pt b3 (.cells #[.int .i64 0,.int .i64 0,.slice none 0 0] 37 (0,0))+fr+R) ?_ ?_
  ·have hclk:=z1.bd.clock
   have hst:=z1.num.2.1
   obtain ⟨⟨um,ur0,us,umr,ug,ue,ud,urq,uop,uow,uw,uco,uou,uan⟩,qs,jG,jE,jD,jR,jT,jK,jO,P',rfl⟩:=hS1
   have hvo:uow=wK c1.own tb:=P'.own
   cases hco:c1.coord with
   | none =>
    obtain rfl:uco=.pointer none:=by have:=P'.coord; rw [hco] at this; exact this.1
    rw [decide_eq_false (fun h=>by cases h.1)]
    refine yB [] [0,1,2,3,4,5,6,7,8,9,10,11,12,13,14,15,16,17,18,19,20,21,22,23] (by kernel_rfl) M (by kernel_rfl) (by kernel_rfl) ?_
    refine zaF ?_
    refine yD M M M M (kY M M) ?_
    refine zaR ?_
    skip
    exact ⟨zsb,rfl⟩
   | some kk =>
    obtain ⟨kb,rfl⟩:∃ kb,uco=pB kb:=by have:=P'.coord; rw [hco] at this; obtain ⟨kb,e,-⟩:=this; exact ⟨kb,e⟩
    cases how:c1.own
    ·rw [how] at hvo
     simp only [wK,cond_false] at hvo
     subst hvo
     refine yB [] [0,1,2,3,4,5,6,7,8,9,10,11,12,13,14,15,16,17,18,19,20,21,22,23] (by kernel_rfl) M (by kernel_rfl) (by kernel_rfl) ?_
     refine zaF ?_
     refine yD M M M M (kY M M) ?_
     refine zaF ?_
     refine yD M M M M (kZ M M) ?_
     refine zaF ?_
     refine yD M M M M (pv_sub M M (by omega) (by omega)) ?_
     skip
     refine jY M M M M (kQ M M) (fun n3=>?_) (fun n3=>?_)
     ·rw [decide_eq_true ⟨rfl,rfl,by omega⟩]
      refine zaD ?_
      skip
      exact ⟨zsb,rfl⟩
     ·rw [decide_eq_false (fun h=>n3 (by omega))]
      refine zaD ?_
      skip
      exact ⟨zsb,rfl⟩
    ·rw [how] at hvo
     simp only [wK,cond_true] at hvo
     subst hvo
     rw [decide_eq_false (fun h=>by cases h.2.1)]
     refine yB [] [0,1,2,3,4,5,6,7,8,9,10,11,12,13,14,15,16,17,18,19,20,21,22,23] (by kernel_rfl) M (by kernel_rfl) (by kernel_rfl) ?_
     refine zaF ?_
     refine yD M M M M (kY M M) ?_
     refine zaF ?_
     refine yD M M M M (kZ M M) ?_
     refine zaR ?_
     skip
     exact ⟨zsb,rfl⟩
  rintro g' _ ⟨hsub,rfl⟩
  refine jV hsub ?_
  clear hsub g'
  skip
  refine jP (fun g' L'=>∃ (E S' R:Hp),Sub g' [(0,pB b),(3,pB b3)]∧kT w0 (X+E) b tb (tick2F c1) S'∧L'=X+E+S'+pt b3 (.cells #[.int .i64 0,.int .i64 0,.slice none 0 0] 37 (0,0))+fr+R) ?_ ?_
  ·refine uU M (fun h=>?_) (fun h=>?_)
   ·refine zbQ ?_
    refine zX M M (zQ M M M) (starting_spec w0 (X+E) b tb c1 S' (n+6) hS1 z1 (by omega) h.1) ?_
    rintro _ _ ⟨E2,S2,h6,rfl⟩
    repeat (refine zE ?_)
    exact ⟨E+E2,S2,_,zsb,by unfold tick2F; rw [if_pos h,← yZ]; exact h6,yJ.out⟩
   ·repeat (refine zP ?_)
    exact ⟨E,S',_,zsb,by unfold tick2F; rw [if_neg h]; exact hS1,yJ.out⟩
  clear hS1
  rintro g' _ ⟨E,S',R,hsub,hS2,rfl⟩
  refine jV hsub ?_
  clear hsub g'
  generalize tick2F c1=c2 at *
  repeat (refine zF ?_)
  refine jP (fun g' L'=>Sub g' [(0,pB b),(3,pB b3),(109,.bool (decide (c2.busy=true∧60≤c2.clock - c2.since)))]∧L'=X+E+S'+pt b3 (.cells #[.int .i64 0,.int .i64 0,.slice none 0 0] 37 (0,0))+fr+R) ?_ ?_
  ·have hclk:=z2.bd.clock
   have hst:=z2.num.2.2.1
   obtain ⟨⟨um,ur0,us,umr,ug,ue,ud,urq,uop,uow,uw,uco,uou,uan⟩,qs,jG,jE,jD,jR,jT,jK,jO,P',rfl⟩:=hS2
   refine yB [] [0,1,2,3,4,5,6,7,8,9,10,11,12,13,14,15] (by kernel_rfl) M (by kernel_rfl) (by kernel_rfl) ?_
   refine zaF ?_
   cases hbu:c2.busy
   ·rw [decide_eq_false (fun h=>by cases h.1)]
    refine zaR ?_
    skip
    exact ⟨zsb,rfl⟩
   ·refine zaF ?_
    refine yD M M M M (pv_sub M M (by omega) (by omega)) ?_
    skip
    refine jY M M M M (kQ M M) (fun n3=>?_) (fun n3=>?_)
    ·rw [decide_eq_true ⟨rfl,by omega⟩]
     refine zaD ?_
     skip
     exact ⟨zsb,rfl⟩
    ·rw [decide_eq_false (fun h=>n3 (by omega))]
     refine zaD ?_
     skip
     exact ⟨zsb,rfl⟩
  rintro g' _ ⟨hsub,rfl⟩
  refine jV hsub ?_
  clear hsub g'
  skip
  refine jP (fun g' L'=>∃ (E S' R:Hp),Sub g' [(0,pB b),(3,pB b3)]∧kT w0 (X+E) b tb (tick3F c2) S'∧L'=X+E+S'+pt b3 (.cells #[.int .i64 0,.int .i64 0,.slice none 0 0] 37 (0,0))+fr+R) ?_ ?_
  ·refine uU M (fun h=>?_) (fun h=>?_)
   ·have hw:dI c2:=a2.elim id fun hr=>by rw [hr.1] at h; cases h.1
    refine zbQ ?_
    refine zX M M (zQ M M M) (overing_spec w0 (X+E) b tb c2 S' (n+35) hS2 z2 (by omega) f2 hw) ?_
    rintro _ _ ⟨E2,S2,h6,rfl⟩
    repeat (refine zE ?_)
    exact ⟨E+E2,S2,_,zsb,by unfold tick3F; rw [if_pos h,← yZ]; exact h6,yJ.out⟩
   ·repeat (refine zP ?_)
    exact ⟨E,S',_,zsb,by unfold tick3F; rw [if_neg h]; exact hS2,yJ.out⟩
  clear hS2
  rintro g' _ ⟨E,S',R,hsub,hS3,rfl⟩
  refine jV hsub ?_
  clear hsub g'
  generalize tick3F c2=c3 at *
  refine zaV ?_
  refine zX M M (zQ M M M) (doneC_spec w0 (X+E) b tb c3 S' (n+45) hS3 z3.bd (by omega) f3) ?_
  rintro r h' ⟨E2,S2,ho,⟨vo,ad,cd,rfl,h1,h2⟩,h3,rfl⟩
  refine zcN ?_
  exact ⟨[_,_,_],_,_,⟨rfl,⟨_,rfl,zL (vs:=[_,_,_]) M M M⟩,rfl,trivial⟩,⟨E+E2,S2,ho,⟨vo,ad,cd,rfl,by rw [← yZ]; exact h1,by rw [← yZ]; exact h2⟩,by rw [← yZ]; exact h3,rfl⟩,yJ.out⟩
end
theorem getM_len (b:List Bt):(kH b).1.data.length≤b.length:=by
 unfold kH
 split
 ·simp [dK]
 ·split
  ·simp [dK]
  ·have h0:=getFr_len b
   unfold bodyM
   split
   ·simp [dK]
   ·split
    ·simp [dK]
    ·split
     ·simp [dK]
     ·rename_i q hq
      have h1:=qU (⟨(wV b).1,false⟩:RS) 8
      have h2:=qU (yR ⟨(wV b).1,false⟩) 8
      have h3:=qU (yR (yR ⟨(wV b).1,false⟩)) 8
      have:=readR_len (N:=b.length) hq (by simp [m0F]) (by simp [m0F]) (Nat.le_trans h3 (Nat.le_trans h2 (Nat.le_trans h1 h0)))
      split
      ·simp [dK]
      ·split
       ·simp [dK]
       ·exact this.2.1
theorem bodyM_check (s:RS) (h:(bodyM s).2=0):jA (bodyM s).1=0:=by
 unfold bodyM at h ⊢
 by_cases h1:(yR (yR (yR s))).bad=true
 ·rw [if_pos h1] at h; exact absurd h (by decide)
 rw [if_neg h1] at h ⊢
 by_cases h2:jB (m0F s).kind=[]
 ·rw [if_pos h2] at h; exact absurd h (by decide)
 rw [if_neg h2] at h ⊢
 cases hr:vN (jB (m0F s).kind) (m0F s,yR (yR (yR s))) with
 | none=>rw [hr] at h; exact absurd h (by decide)
 | some q =>
  rw [hr] at h
  simp only at h ⊢
  by_cases h3:endV q.2≠0
  ·rw [if_pos h3] at h; exact absurd h (by decide)
  rw [if_neg h3] at h ⊢
  by_cases h4:jA q.1≠0
  ·rw [if_pos h4] at h; exact absurd h h4
  rw [if_neg h4]
  simpa using h4
theorem getM_check (b:List Bt) (h:(kH b).2=0):jA (kH b).1=0:=by
 unfold kH at h ⊢
 by_cases h1:(wV b).2.2≠0
 ·rw [if_pos h1] at h; exact absurd h h1
 rw [if_neg h1] at h ⊢
 by_cases h2:(wV b).2.1≠b.length
 ·rw [if_pos h2] at h; exact absurd h (by decide)
 rw [if_neg h2] at h ⊢
 exact bodyM_check _ h
theorem check_ranged {m:Msg} (h:jA m=0):qB m=true:=by
 unfold jA at h
 split at h
 ·cases h
 ·split at h
  ·cases h
  ·split at h
   ·cases h
   ·rename_i h3; simpa using h3
theorem check_nums {m:Msg} (h:jA m=0):(m.kind=9∨m.kind=11→I64 m.index)∧0≤m.src:=by
 have hr:=check_ranged h
 unfold qB at hr
 simp only [Bool.and_eq_true,List.all_eq_true] at hr
 obtain ⟨⟨h1,-⟩,h2,-⟩:=hr
 refine ⟨fun hk=>?_,?_⟩
 ·have hf:(105:UInt8)∈jB m.kind:=by rcases hk with hk|hk<;>(rw [hk]; decide)
  have:=h2 _ hf
  have h3:inB (getL m 105) (loB 105) (hiB 105)=true:=by simpa [fineL] using this
  unfold inB at h3
  have h3:=of_decide_eq_true h3
  have e1:getL m 105=m.index:=rfl
  have e2:loB 105=0:=rfl
  have e3:hiB 105=1099511627776:=rfl
  unfold I64
  omega
 ·unfold inB at h1
  have:=of_decide_eq_true h1
  omega
def tookF (c:Cl) (m:Msg):Cl:=if m.kind=7 then toldF c m else if c.coord.isSome=true∧m.txn=c.about∧(m.kind=9∨m.kind=11) then stepF c m else c
theorem tookF_ok {c:Cl} {n:Nat} (ha:Any c) (hf:xG c) (hz:Sz n c) (hn:n+50≤100000000) (m:Msg) (hm:m.kind=9∨m.kind=11→I64 m.index) (hs:0≤m.src) (hd:m.data.length≤1000000):xG (tookF c m)∧Sz (n+50) (tookF c m):=by
 unfold tookF
 split
 ·exact ⟨(toldF_ok ha hf m).1,hz.told hn hf m hs hd⟩
 ·split
  ·rename_i hc
   rcases ha with hw|hr
   ·exact ⟨(stepF_ok hw hf hc.1 m).1,hz.step hn hf m (hm hc.2.2)⟩
   ·rw [hr.2.2.2.2.1] at hc; cases hc.1
  ·exact ⟨hf,hz.mono (by omega)⟩
theorem zdF {G G' : Prop} (h : G') (f : Zh G'→G:=by intro h; (repeat (first|refine zF ?_|refine zB ?_|refine zE ?_|refine zK M M M ?_|refine zM ?_|refine zJ M ?_|refine yL (vs:=[]) (cells:=[_,_,_]) M M M M ?_|refine yY M (vs:=[_,_,_]) M M M M (c':=[_,_,_]) M M ?_)); exact h.o) : G:=f ⟨h⟩
theorem zdY {G G' : Prop} (h : G') (f : Zh G'→G:=by intro h; (repeat (first|refine yH M M M M M ?_|refine yD M M M M (zZ M M M) ?_|refine yQ M M M M (yE M) (zG M (zS M)) ?_|refine yQ M M M M (yE M) (zL (vs:=[_,_,_,_,_,_,_,_,_,_,_,_,_,_,_,_,_]) M M M) ?_)); exact h.o) : G:=f ⟨h⟩
section
variable (w0:World) (X:Hp) (b tb:Nat) (c:Cl) (S:Hp) (n:Nat)
theorem stepping_facts {c:Cl} (ha:Any c) (hc:c.coord.isSome=true):c.own=true∨(c.own=false∧∃ d∈c.doubts,d.id=c.about):=by
 rcases ha with ⟨_,_,h3⟩|⟨_,_,h3⟩
 ·rcases h3 with ⟨_,e,_⟩|⟨_,_,e,_⟩|⟨_,e,_,_⟩|⟨_,_,e,_,d,_⟩
  ·rw [e] at hc; cases hc
  ·rw [e] at hc; cases hc
  ·exact .inl e
  ·exact .inr ⟨e,d⟩
 ·rw [h3.2.2.1] at hc; cases hc
theorem taking_spec (hS:kT w0 X b tb c S) (hZ:Sz n c) (hn:n+500≤1000000) (hF:xG c) (hA:Any c) (src dst:Int) (bs:List Bt) (ad:Option Addr) (cd:Nat) (hb:RdL w0 X (.slice ad bs.length cd) bs) (hl:bs.length≤1000000) (hcap:bs.length≤cd) :
  yO Tryz.prog w0 26 [pB b,.agg [.int .i64 src,.int .i64 dst,.slice ad bs.length cd].toArray] (X+S) (fun r h'=>Fin w0 X b tb (dL c src dst bs).1 (dL c src dst bs).2 r h'):=by
 have hget:=msgGet_spec w0 X _ bs hb (by omega) (by rintro a n c e; cases e; exact hcap)
 have hno:∀ {r:Value},r=.tuple #[.slice none 0 0,.agg [.int .i64 0,.int .i64 0,.slice none 0 0].toArray,.bool false]→dL c src dst bs=(c,⟨[],ans0,false⟩)→Fin w0 X b tb (dL c src dst bs).1 (dL c src dst bs).2 r (X+S):=by
  rintro r rfl e
  rw [e]
  exact ⟨0,S,0,⟨.slice none 0 0,none,0,rfl,OwL.nil _ _,RdL.nil _ _ _⟩,by rw [yA]; exact hS,by rw [yA,yA]⟩
 have hck:=fun h=>getM_check bs h
 have hml:=getM_len bs
 have hT0:dL c src dst bs=if dst≠c.addr∨(kH bs).2≠0∨(kH bs).1.src≠src∨(kH bs).1.dst≠dst then (c,⟨[],ans0,false⟩) else (dO (tookF c (kH bs).1),endF (tookF c (kH bs).1)):=rfl
 generalize dL c src dst bs=tk at *
 generalize kH bs=gm at *
 obtain ⟨m,e⟩:=gm
 simp only at hck hml hT0 hget ⊢
 have hS9:=id hS
 obtain ⟨⟨vmem,vr0,vsets,vmr,vg,ve,vd,vrq,vop,vow,vw,vco,vou,van⟩,ps,hG,hE,hD,hR,hT,hK,hO,P,rfl⟩:=hS
 refine zN Tryz.func26 M Tryz.ntmps26 Tryz.results26 M fun fr=>?_
 repeat (first|refine zF ?_|refine zB ?_|refine zE ?_|refine zK M M M ?_|refine zY M M M M M ?_|refine yM M M M M M ?_|refine xN M (c:=[_,_,_]) M M M (fun _=>?_)|refine xK (c:=[_,_,_]) M M M (fun _=>?_))
 refine zX M M (zQ M M M) hget ?_
 rintro _ _ ⟨a1,a2,c1,c2,G,rfl,hre,hrd,rfl⟩
 repeat (first|refine zF ?_|refine zE ?_|refine zK M M M ?_|refine yY M (vs:=[_,_,_,_,_,_,_,_,_,_,_,_,_,_,_,_,_]) M M M M (c':=[_,_,_,_,_,_,_,_,_,_,_,_,_,_,_,_,_]) M M ?_|refine xK (c:=[_,_,_,_,_,_,_,_,_,_,_,_,_,_,_,_,_]) M M M (fun _=>?_))
 rename_i b5 b7
 refine yB [] [0,1,2,3,4,5,6,7,8,9,10,11,12,13,14,15,16,17,18,19,20,21,22,23,24] (by kernel_rfl) M (by kernel_rfl) (by kernel_rfl) ?_
 refine zaF ?_
 refine jY M M M M (xZ M M) (fun n1=>?_) (fun n1=>?_)
 ·refine zaR ?_
  refine zdF ?_
  exact ⟨[_,_,_],X+_,_,⟨rfl,⟨_,rfl,zL (vs:=[_,_,_]) M M M⟩,rfl,trivial⟩,hno M (by rw [hT0,if_pos (.inl n1)]),yJ.out⟩
 repeat (refine yH M M M M M ?_)
 refine jY M M M M (xZ M M) (fun n2=>?_) (fun n2=>?_)
 ·refine zaR ?_
  refine zdF ?_
  exact ⟨[_,_,_],X+_,_,⟨rfl,⟨_,rfl,zL (vs:=[_,_,_]) M M M⟩,rfl,trivial⟩,hno M (by rw [hT0,if_pos (.inr (.inl n2))]),yJ.out⟩
 refine zaF ?_
 refine jY M M M M (xZ M M) (fun n3=>?_) (fun n3=>?_)
 ·refine zaR ?_
  refine zdF ?_
  exact ⟨[_,_,_],X+_,_,⟨rfl,⟨_,rfl,zL (vs:=[_,_,_]) M M M⟩,rfl,trivial⟩,hno M (by rw [hT0,if_pos (.inr (.inr (.inl n3)))]),yJ.out⟩
 refine zaF ?_
 refine jY M M M M (xZ M M) (fun n4=>?_) (fun n4=>?_)
 ·refine zaD ?_
  refine zdF ?_
  exact ⟨[_,_,_],X+_,_,⟨rfl,⟨_,rfl,zL (vs:=[_,_,_]) M M M⟩,rfl,trivial⟩,hno M (by rw [hT0,if_pos (.inr (.inr (.inr n4)))]),yJ.out⟩
 rw [if_neg (by rintro (h|h|h|h)<;>contradiction)] at hT0
 obtain rfl:e=0:=by simpa using n2
 subst hT0
 clear hno
 obtain ⟨hm1,hm2⟩:=check_nums (hck rfl)
 obtain ⟨f2,z2⟩:=tookF_ok hA hF hZ (by omega) m hm1 hm2 (by omega)
 have hS2:kT w0 (X+G) b tb c _:=hS9.mono M
 have hrd2:RdL w0 (X+G) (.slice a2 m.data.length c2) m.data:=hrd.mono (uQ _ _)
 clear hget hck
 refine zaD ?_
 repeat (first|refine zF ?_|refine zP ?_|refine zI M ?_)
 refine jP (fun g' L'=>∃ (E S' R:Hp),Sub g' [(0,pB b),(5,pB b5)]∧kT w0 (X+E) b tb (tookF c m) S'∧L'=X+E+S'+pt b5 (.cells #[.int .i64 0,.int .i64 0,.slice none 0 0] 37 (0,0))+fr+R) ?_ ?_
 ·repeat (first|refine zF ?_|refine zR ?_|refine zB ?_|refine zY M M M M M ?_|refine yM M M M M M ?_)
  refine yF M M (yK M M) (fun k1=>?_) (fun k1=>?_)
  ·have et:tookF c m=toldF c m:=by unfold tookF; rw [if_pos k1]
   rw [et]
   refine zeX ?_
   refine zX M M (zQ M M M) (telling_spec w0 (X+G) b tb c _ n hS2 hZ (by omega) hF hA m _ a2 c2 hrd2 (by omega) hm2) ?_
   rintro _ _ ⟨E2,S2,h6,rfl⟩
   repeat (refine zE ?_)
   exact ⟨G+E2,S2,_,zsb,by rw [← yZ]; exact h6,yJ.out⟩
  have et:tookF c m=if c.coord.isSome=true∧m.txn=c.about∧(m.kind=9∨m.kind=11) then stepF c m else c:=by unfold tookF; rw [if_neg k1]
  rw [et]
  clear et f2 z2
  have hcv:∃ q,vco=.pointer q∧q.isSome=c.coord.isSome:=by
   have:=P.coord
   cases hc:c.coord with
   | none=>rw [hc] at this; exact ⟨_,this.1,rfl⟩
   | some k=>rw [hc] at this; obtain ⟨kb,e,-⟩:=this; exact ⟨_,e,rfl⟩
  obtain ⟨q,rfl,hq⟩:=hcv
  refine zcC ?_
  rcases q with _|qa
  ·have hcs:c.coord.isSome=false:=hq.symm
   refine yB [] [0,1,2,3,4,5,6,7,8,9,10,11,12,13,14,15,16,17,18,19,20,21,22,23,24] (by kernel_rfl) M (by kernel_rfl) (by kernel_rfl) ?_
   refine zaF ?_
   refine yD M M M M (kY M M) ?_
   have hx:¬ (c.coord.isSome=true∧m.txn=c.about∧(m.kind=9∨m.kind=11)):=fun h=>by rw [hcs] at h; cases h.1
   rw [if_neg hx]
   refine zaR ?_
   refine zcM ?_
   exact ⟨G,_,_,zsb,hS2,yJ.out⟩
  ·have hcs:c.coord.isSome=true:=hq.symm
   refine yB [] [0,1,2,3,4,5,6,7,8,9,10,11,12,13,14,15,16,17,18,19,20,21,22,23,24] (by kernel_rfl) M (by kernel_rfl) (by kernel_rfl) ?_
   refine zaF ?_
   refine yD M M M M (kY M M) ?_
   refine zaF ?_
   refine jY M M M M (yK M M) (fun n5=>?_) (fun n5=>?_)
   ·refine zaF ?_
    refine jY M M M M (yK M M) (fun n6=>?_) (fun n6=>?_)
    ·rw [if_pos ⟨hcs,n5,(.inl n6)⟩]
     refine zaR ?_
     repeat (first|refine zF ?_|refine zJ M ?_)
     obtain ⟨kk,hkk⟩:=Option.isSome_iff_exists.1 hcs
     obtain ⟨kb,hqb,hKA⟩:∃ kb,(Value.pointer (some qa))=pB kb∧uW w0 kb kk hK:=by have:=P.coord; rw [hkk] at this; exact this
     have hqa:qa=⟨kb,0,none⟩:=by simpa using hqb
     subst hqa
     have hKz:=hZ.co kk hkk
     obtain ⟨s1,s2,s3⟩:=stepC_sz hKz m (hm1 (.inl n6))
     have hstep:=coStep_spec w0 kb kk m (.slice a1 m.entries.length c1) (.slice a2 m.data.length c2) hK hKA hKz.acc (by have:=hKz.parts; omega) (Nat.le_trans (getA_len hKz.promised m.part) (by omega)) (Nat.le_trans (getA_len hKz.accepted (m.part,m.ballot,m.value)) (by omega))
     have es:stepF c m=if valueC (kX kk m).1≠0 then bM (wW { c with coord:=some (kX kk m).1 } (kX kk m).2) (valueC (kX kk m).1) else wW { c with coord:=some (kX kk m).1 } (kX kk m).2:=by unfold stepF; rw [hkk]
     rw [es]
     clear es
     refine yB [6,7] [0,1,2,3,4,5,6,7] (by kernel_rfl) M (by kernel_rfl) (by kernel_rfl) ?_
     refine zdY ?_
     refine xU M M M M (zQ M M M) hstep (xF.all _) ?_
     rintro vm _ ⟨ho2,S2,hoo,hK2,rfl⟩
     refine ⟨zka,?_⟩
     have P3:=P.mono (L:=X+G+ho2) (R:=G+ho2) (by rw [yZ])
     generalize hsc:kX kk m=sc at *
     obtain ⟨k2,l2⟩:=sc
     simp only at s1 s2 s3 hoo hK2 ⊢
     obtain ⟨am,cm,rfl⟩:=hoo.shape
     have hP3:xT w0 (X+G+ho2) b { c with coord:=some k2 } ⟨vmem,vr0,vsets,vmr,vg,ve,vd,vrq,vop,vow,vw,pB kb,vou,van⟩ tb ps hG hE hD hR hT S2 hO :=
      xT.mk P3.mem P3.rngs0 P3.sets P3.mr P3.guess P3.ended P3.dbts P3.reqs P3.opn P3.own P3.txn P3.waits ⟨kb,rfl,hK2⟩ P3.out P3.ansd
     have hout:=hZ.bd.out
     have hpt:=putting_all_spec w0 (X+G+ho2) b tb { c with coord:=some k2 } _ ps ⟨_,hG,hE,hD,hR,hT,S2,hO,hP3,rfl⟩ l2 am cm (hoo.rd (X:=0) (R:=X+G)) (by show c.out.length+l2.length≤_; omega) (fun x hx=>by rw [(s3 x hx).1,(s3 x hx).2]; simp)
     skip
     refine xU M M M M (zQ M M M) hpt (.drop (by kernel_rfl) (.drop (by kernel_rfl) .nil)) ?_
     rintro _ _ ⟨E3,S3,h3,rfl⟩
     refine ⟨trivial,?_⟩
     have hfacts:=stepping_facts hA hcs
     have hz4:Sz (n+8) (wW { c with coord:=some k2 } l2):=((((hZ.mono (Nat.le_succ n)).coos (k:=some k2) (fun k' e=>by cases e; exact s1)).puts l2).mono (by omega))
     have hf4:xG (wW { c with coord:=some k2 } l2):=(xG.same (c:={ c with coord:=some k2 }) ⟨hF.guess,hF.reqs,hF.rngs,hF.parts,hF.asked,hF.doubts,fun _ e=>hF.coord hcs e,hF.nmem⟩ (uE l2 _).1)
     have hk4:(wW { c with coord:=some k2 } l2).coord=some k2∧(wW { c with coord:=some k2 } l2).own=c.own∧(wW { c with coord:=some k2 } l2).doubts=c.doubts∧(wW { c with coord:=some k2 } l2).about=c.about:=by
      obtain ⟨o,q,e,-⟩:=(uE l2 { c with coord:=some k2 }).1
      rw [e]; exact ⟨rfl,rfl,rfl,rfl⟩
     have h3':=h3.cli
     clear hpt hP3 P3 hstep hsc
     generalize wW { c with coord:=some k2 } l2=c4 at *
     obtain ⟨⟨um,ur0,us,umr,ug,ue,ud,urq,uop,uow,uw,uco,uou,uan⟩,jG,jE,jD,jR,jT,jK,jO,P4,rfl⟩:=h3
     obtain ⟨kb4,hub,hKA4⟩:∃ kb,uco=pB kb∧uW w0 kb k2 jK:=by have:=P4.coord; rw [hk4.1] at this; exact this
     subst hub
     repeat (refine yI ?_)
     refine zcH ?_
     refine zX M M (zQ M M M) (coValue_spec w0 kb4 k2 jK hKA4 (by have:=s1.parts; omega)) ?_
     rintro _ _ ⟨rfl,rfl⟩
     refine zaC ?_
     refine yF M M (xZ M M) (fun n8=>?_) (fun n8=>?_)
     ·rw [if_pos n8]
      refine zaU ?_
      refine zX M M (zQ M M M) (coming_spec w0 (X+G+ho2+E3) b tb c4 _ (n+8) h3' hz4 (by omega) hf4 (valueC k2) (valueC_sz k2) (by rw [hk4.2.1,hk4.2.2.1,hk4.2.2.2]; exact hfacts)) ?_
      rintro _ _ ⟨E5,S5,h5,rfl⟩
      repeat (refine zE ?_)
      exact ⟨G+ho2+E3+E5,S5,_,zsb,by rw [← yZ,← yZ,← yZ]; exact h5,yJ.out⟩
     ·rw [if_neg n8]
      refine zaX ?_
      exact ⟨G+ho2+E3,_,_,zsb,by rw [← yZ,← yZ]; exact h3',yJ.out⟩
    ·refine zaF ?_
     refine jY M M M M (yK M M) (fun n7=>?_) (fun n7=>?_)
     ·rw [if_pos ⟨hcs,n5,(.inr n7)⟩]
      refine zaD ?_
      repeat (first|refine zF ?_|refine zJ M ?_)
      obtain ⟨kk,hkk⟩:=Option.isSome_iff_exists.1 hcs
      obtain ⟨kb,hqb,hKA⟩:∃ kb,(Value.pointer (some qa))=pB kb∧uW w0 kb kk hK:=by have:=P.coord; rw [hkk] at this; exact this
      have hqa:qa=⟨kb,0,none⟩:=by simpa using hqb
      subst hqa
      have hKz:=hZ.co kk hkk
      obtain ⟨s1,s2,s3⟩:=stepC_sz hKz m (hm1 (.inr n7))
      have hstep:=coStep_spec w0 kb kk m (.slice a1 m.entries.length c1) (.slice a2 m.data.length c2) hK hKA hKz.acc (by have:=hKz.parts; omega) (Nat.le_trans (getA_len hKz.promised m.part) (by omega)) (Nat.le_trans (getA_len hKz.accepted (m.part,m.ballot,m.value)) (by omega))
      have es:stepF c m=if valueC (kX kk m).1≠0 then bM (wW { c with coord:=some (kX kk m).1 } (kX kk m).2) (valueC (kX kk m).1) else wW { c with coord:=some (kX kk m).1 } (kX kk m).2:=by unfold stepF; rw [hkk]
      rw [es]
      clear es
      refine yB [6,7] [0,1,2,3,4,5,6,7] (by kernel_rfl) M (by kernel_rfl) (by kernel_rfl) ?_
      refine zdY ?_
      refine xU M M M M (zQ M M M) hstep (xF.all _) ?_
      rintro vm _ ⟨ho2,S2,hoo,hK2,rfl⟩
      refine ⟨zka,?_⟩
      have P3:=P.mono (L:=X+G+ho2) (R:=G+ho2) (by rw [yZ])
      generalize hsc:kX kk m=sc at *
      obtain ⟨k2,l2⟩:=sc
      simp only at s1 s2 s3 hoo hK2 ⊢
      obtain ⟨am,cm,rfl⟩:=hoo.shape
      have hP3:xT w0 (X+G+ho2) b { c with coord:=some k2 } ⟨vmem,vr0,vsets,vmr,vg,ve,vd,vrq,vop,vow,vw,pB kb,vou,van⟩ tb ps hG hE hD hR hT S2 hO :=
       xT.mk P3.mem P3.rngs0 P3.sets P3.mr P3.guess P3.ended P3.dbts P3.reqs P3.opn P3.own P3.txn P3.waits ⟨kb,rfl,hK2⟩ P3.out P3.ansd
      have hout:=hZ.bd.out
      have hpt:=putting_all_spec w0 (X+G+ho2) b tb { c with coord:=some k2 } _ ps ⟨_,hG,hE,hD,hR,hT,S2,hO,hP3,rfl⟩ l2 am cm (hoo.rd (X:=0) (R:=X+G)) (by show c.out.length+l2.length≤_; omega) (fun x hx=>by rw [(s3 x hx).1,(s3 x hx).2]; simp)
      skip
      refine xU M M M M (zQ M M M) hpt (.drop (by kernel_rfl) (.drop (by kernel_rfl) .nil)) ?_
      rintro _ _ ⟨E3,S3,h3,rfl⟩
      refine ⟨trivial,?_⟩
      have hfacts:=stepping_facts hA hcs
      have hz4:Sz (n+8) (wW { c with coord:=some k2 } l2):=((((hZ.mono (Nat.le_succ n)).coos (k:=some k2) (fun k' e=>by cases e; exact s1)).puts l2).mono (by omega))
      have hf4:xG (wW { c with coord:=some k2 } l2):=(xG.same (c:={ c with coord:=some k2 }) ⟨hF.guess,hF.reqs,hF.rngs,hF.parts,hF.asked,hF.doubts,fun _ e=>hF.coord hcs e,hF.nmem⟩ (uE l2 _).1)
      have hk4:(wW { c with coord:=some k2 } l2).coord=some k2∧(wW { c with coord:=some k2 } l2).own=c.own∧(wW { c with coord:=some k2 } l2).doubts=c.doubts∧(wW { c with coord:=some k2 } l2).about=c.about:=by
       obtain ⟨o,q,e,-⟩:=(uE l2 { c with coord:=some k2 }).1
       rw [e]; exact ⟨rfl,rfl,rfl,rfl⟩
      have h3':=h3.cli
      clear hpt hP3 P3 hstep hsc
      generalize wW { c with coord:=some k2 } l2=c4 at *
      obtain ⟨⟨um,ur0,us,umr,ug,ue,ud,urq,uop,uow,uw,uco,uou,uan⟩,jG,jE,jD,jR,jT,jK,jO,P4,rfl⟩:=h3
      obtain ⟨kb4,hub,hKA4⟩:∃ kb,uco=pB kb∧uW w0 kb k2 jK:=by have:=P4.coord; rw [hk4.1] at this; exact this
      subst hub
      repeat (refine yI ?_)
      refine zcH ?_
      refine zX M M (zQ M M M) (coValue_spec w0 kb4 k2 jK hKA4 (by have:=s1.parts; omega)) ?_
      rintro _ _ ⟨rfl,rfl⟩
      refine zaC ?_
      refine yF M M (xZ M M) (fun n8=>?_) (fun n8=>?_)
      ·rw [if_pos n8]
       refine zaU ?_
       refine zX M M (zQ M M M) (coming_spec w0 (X+G+ho2+E3) b tb c4 _ (n+8) h3' hz4 (by omega) hf4 (valueC k2) (valueC_sz k2) (by rw [hk4.2.1,hk4.2.2.1,hk4.2.2.2]; exact hfacts)) ?_
       rintro _ _ ⟨E5,S5,h5,rfl⟩
       repeat (refine zE ?_)
       exact ⟨G+ho2+E3+E5,S5,_,zsb,by rw [← yZ,← yZ,← yZ]; exact h5,yJ.out⟩
      ·rw [if_neg n8]
       refine zaX ?_
       exact ⟨G+ho2+E3,_,_,zsb,by rw [← yZ,← yZ]; exact h3',yJ.out⟩
     ·have hx:¬ (c.coord.isSome=true∧m.txn=c.about∧(m.kind=9∨m.kind=11)):=fun h=>h.2.2.elim n6 n7
      rw [if_neg hx]
      refine zaD ?_
      refine zcM ?_
      exact ⟨G,_,_,zsb,hS2,yJ.out⟩
   ·have hx:¬ (c.coord.isSome=true∧m.txn=c.about∧(m.kind=9∨m.kind=11)):=fun h=>n5 h.2.1
    rw [if_neg hx]
    refine zaR ?_
    refine zcM ?_
    exact ⟨G,_,_,zsb,hS2,yJ.out⟩
 ·rintro g' _ ⟨E,S',R,hsub,hS3,rfl⟩
  refine jV hsub ?_
  clear hsub g'
  generalize tookF c m=c3 at *
  refine zaV ?_
  refine zX M M (zQ M M M) (doneC_spec w0 (X+E) b tb c3 S' (n+50) hS3 z2.bd (by omega) f2) ?_
  rintro r h' ⟨E2,S2,ho,⟨vo,ad,cd,rfl,h1,h2⟩,h3,rfl⟩
  refine zcN ?_
  exact ⟨[_,_,_],_,_,⟨rfl,⟨_,rfl,zL (vs:=[_,_,_]) M M M⟩,rfl,trivial⟩,⟨E+E2,S2,ho,⟨vo,ad,cd,rfl,by rw [← yZ]; exact h1,by rw [← yZ]; exact h2⟩,by rw [← yZ]; exact h3,rfl⟩,yJ.out⟩
end
set_option maxHeartbeats 16000000
theorem take_hm (bs:List Bt) (hl:bs.length≤1000000):(kH bs).2=0→((kH bs).1.kind=9∨(kH bs).1.kind=11→I64 (kH bs).1.index)∧0≤(kH bs).1.src∧(kH bs).1.data.length≤1000000:=by
 intro h
 obtain ⟨h1,h2⟩:=check_nums (getM_check bs h)
 exact ⟨h1,h2,Nat.le_trans (getM_len bs) hl⟩
theorem bigM_small {m:Msg} (h:bigMF m 100 16384=false):m.entries.length≤100∧(∀ e∈m.entries,e.data.length≤20000)∧m.data.length≤20000:=by
 unfold bigMF bigEF at h
 simp only [Bool.or_eq_false_iff,decide_eq_false_iff_not,Nat.not_lt] at h
 obtain ⟨⟨h1,h2⟩,h3⟩:=h
 refine ⟨h1,fun e he=>?_,by omega⟩
 obtain ⟨k,hk,rfl⟩:=List.getElem_of_mem he
 have h4:=sumB_take (n:=16384) hk
 have h5:=sumB_le 16384 m.entries (k+1)
 omega
section
variable (w0:World) (X:Hp) (b tb:Nat) (c:Cl) (S:Hp) (n:Nat)
theorem busy_spec (hS:kT w0 X b tb c S):yO Tryz.prog w0 16 [pB b] (X+S) (fun r h'=>r=.bool c.busy∧X+S=h'):=by
 obtain ⟨⟨vmem,vr0,vsets,vmr,vg,ve,vd,vrq,vop,vow,vw,vco,vou,van⟩,ps,hG,hE,hD,hR,hT,hK,hO,P,rfl⟩:=hS
 refine zN Tryz.func16 M Tryz.ntmps16 Tryz.results16 M fun fr=>?_
 refine zdA ?_
 exact ⟨[_],X+_,_,⟨rfl,trivial⟩,⟨rfl,rfl⟩,yJ.out⟩
end
end Sl
end Go.Proofs.YtfahijncpmlhjaaGreat
namespace Go.Proofs.YtfahijncpmlhjaaGreat
open Go Go.RowKit
namespace Sl
def HoldVM (P:Program) (n:Nat) (w0:World) (ops:Array Oper) (eff:List Nat) (j d:Nat) (t:TypeId) (W:kK) (listed:Array Bool) (s:List Nat) (Q:uH) (g:Env) (L:Hp):Prop :=
 HoldA P n w0 ops eff j W listed s Q g L∧∀ b,xC P n w0 ops eff W (listed.setIfInBounds j true) (s.erase j) Q ((d,.map (some b))::g) (pt b (.map #[] 0)+L)
section
variable {P:Program} {n:Nat} {w0:World} {Q:uH} {g:Env} {L:Hp} {ops:Array Oper} {eff:List Nat} {W:kK} {listed:Array Bool} {s:List Nat} {j d:Nat} {t:TypeId}
theorem VM_take {i:Nat} {o:Oper} {v:Value} (S:World→Prop) (W':kK) (hij:(i==j)=false) (hi:ops[i]?=some o) (heff:eff.contains i=false) (hd:o.dst.all (·<n)=true) (hdd:o.dst.all (· != d)=true)
  (hW':∀ p∈(i,S)::kK.at P W,p∈kK.at P W'∨∀ w,p.2 w) (hS:∀ w,St w0 w L→S w) (hlW:∀ L',(∀ w,St w0 w L'→St w0 w L)→(∀ p∈W,qA P w0 L' p.2.1 p.2.2.1 p.2.2.2)→∀ p∈W',qA P w0 L' p.2.1 p.2.2.1 p.2.2.2)
  (hy:∀ a,Fits n a g→YieldsIf P ops S o v a) (hyB:∀ b a,Fits n a ((d,.map (some b))::g)→YieldsIf P ops S o v a)
  (hk:HoldVM P n w0 ops eff j d t W' (listed.setIfInBounds i true) s Q (wR g o.dst v) L):HoldVM P n w0 ops eff j d t W listed (i::s) Q g L:=by
 have hne:i≠j:=by simpa using hij
 have her:(i::s).erase j=i::s.erase j:=by rw [List.erase_cons_tail]; simpa using hij
 constructor
 ·intro hok hokB hc hq hsel hW a w ha hst
  simp only [okV,hij,heff,Bool.and_eq_true,Bool.false_eq_true,if_false] at hok
  obtain ⟨⟨h1,h2⟩,h3⟩:=hok
  have hr:i∈Region.ready .any ops listed:=by simpa using h1
  rw [her] at hokB
  simp only [uK,Bool.and_eq_true] at hokB
  have hB:=hokB.2
  rw [gD hne.symm] at hB
  have H:=hk.1 h3 hB (hc.set hr) hq hsel (hlW L (fun _ h=>h) hW) (a.put o.dst v) w (ha.put hd v) hst
  exact WG_first hi (Region.noSelect_spec hsel) (fun c a w=>lift_np c a w) s.length (W.at P) listed a w hc
   (fun k ok hok' hne' hun hno=>Region.free_spec hi h2 k ok hok' hne' hun hno) hr (hy a ha) (hS w hst) (vY hW hst) (WG_sub _ _ _ _ _ _ hW' H)
 ·intro b
  rw [her]
  have hkb:=hk.2 b
  rw [gD hne] at hkb
  refine W_take S W' hi heff hd hW' (fun w hw=>hS w hw.right) (fun hW=>hlW _ (fun w hw=>hw.right) hW) (hyB b) (holdW_env (sub_putE hdd) hkb)
theorem VM_pure {i:Nat} {dst:Option Nat} {op:Op} {ty:TypeId} {pos:String} {af:Array Edge} (hi:ops[i]?=some ⟨dst,op,ty,pos,af,none⟩) {v:Value} (h:PV P g op v) (hB:∀ p,PV P ((d,p)::g) op v) (hij:(i==j)=false) (heff:eff.contains i=false) (hd:dst.all (·<n)=true) (hdd:dst.all (· != d)=true)
  (hk:HoldVM P n w0 ops eff j d t W (listed.setIfInBounds i true) s Q (wR g dst v) L):HoldVM P n w0 ops eff j d t W listed (i::s) Q g L :=
 VM_take (fun _=>True) W hij hi heff hd hdd (fun p hp=>by rcases List.mem_cons.1 hp with rfl|hp; exact .inr fun _=>trivial; exact .inl hp) (fun _ _=>trivial) (fun _ _ h=>h)
  (fun a ha=>.inl ⟨wB (o:=⟨dst,op,ty,pos,af,none⟩) (g:=g) ha M,fun w _=>h ⟨dst,op,ty,pos,af,none⟩ a w n M ha⟩)
  (fun b a ha=>.inl ⟨wB (o:=⟨dst,op,ty,pos,af,none⟩) (g:=(d,.map (some b))::g) ha M,fun w _=>hB _ ⟨dst,op,ty,pos,af,none⟩ a w n M ha⟩) hk
theorem VM_of {i:Nat} {dst:Option Nat} {op:Op} {ty:TypeId} {pos:String} {af:Array Edge} (hi:ops[i]?=some ⟨dst,op,ty,pos,af,none⟩) {v:Value} (h:pureV g op=some v) (hB:∀ p,pureV ((d,p)::g) op=some v) (hij:(i==j)=false) (heff:eff.contains i=false) (hd:dst.all (·<n)=true) (hdd:dst.all (· != d)=true)
  (hk:HoldVM P n w0 ops eff j d t W (listed.setIfInBounds i true) s Q (wR g dst v) L):HoldVM P n w0 ops eff j d t W listed (i::s) Q g L:=VM_pure hi (pv_of h) (fun p=>pv_of (hB p)) hij heff hd hdd hk
theorem VM_load {i:Nat} {dst:Option Nat} {x:Operand} {tl:TypeId} {ty:TypeId} {pos:String} {af:Array Edge} (hi:ops[i]?=some ⟨dst,.load tl x,ty,pos,af,none⟩) {ad:Addr} {v:Value} (h:ev g x=some (.pointer (some ad))) (hB:∀ p,ev ((d,p)::g) x=some (.pointer (some ad)))
  (hr:qA P w0 L tl ad v) (hij:(i==j)=false) (heff:eff.contains i=false) (hd:dst.all (·<n)=true) (hdd:dst.all (· != d)=true)
  (hk:HoldVM P n w0 ops eff j d t ((i,tl,ad,v)::W) (listed.setIfInBounds i true) s Q (wR g dst v) L):HoldVM P n w0 ops eff j d t W listed (i::s) Q g L :=
 VM_take (fun w=>(loadVar tl ad).run P w=.ok v w) ((i,tl,ad,v)::W) hij hi heff hd hdd (fun p hp=>.inl hp) (fun w hst=>hr w hst)
  (fun L' hL' hW p hp=>by
   rcases List.mem_cons.1 hp with rfl|hp
   ·exact fun w hw=>hr w (hL' w hw)
   ·exact hW p hp)
  (fun a ha=>.inl ⟨wB (o:=⟨dst,.load tl x,ty,pos,af,none⟩) (g:=g) ha M,fun w hS=>by rw [yE h ⟨dst,.load tl x,ty,pos,af,none⟩ a n M ha]; simp only [Sem.run_bind,hS,Result.andThen_ok,Sem.run_pure]⟩)
  (fun b a ha=>.inl ⟨wB (o:=⟨dst,.load tl x,ty,pos,af,none⟩) (g:=(d,.map (some b))::g) ha M,fun w hS=>by rw [yE (hB _) ⟨dst,.load tl x,ty,pos,af,none⟩ a n M ha]; simp only [Sem.run_bind,hS,Result.andThen_ok,Sem.run_pure]⟩) hk
theorem VM_now {ty:TypeId} {pos:String} {af:Array Edge} (hj:ops[j]?=some ⟨some d,.makeMap t none,ty,pos,af,none⟩) (heff:eff.contains j=true) (hd:decide (d<n)=true)
  (hk:∀ b,xC P n w0 ops eff W (listed.setIfInBounds j true) s Q ((d,.map (some b))::g) (pt b (.map #[] 0)+L)):HoldVM P n w0 ops eff j d t W listed (j::s) Q g L:=by
 have her:(j::s).erase j=s:=by simp
 constructor
 ·intro hok hokB hc hq hsel hW a w ha hst
  simp only [okV,beq_self_eq_true,if_true,Bool.and_eq_true,beq_iff_eq] at hok
  obtain ⟨h1,h3⟩:=hok
  have hH:xC P n w0 ops eff W listed (j::s) Q g L:=by
   refine xS hj heff M (by simpa using hd) (ev_mapNew (t:=t)) (xF.all _) ?_
   rintro _ _ ⟨b,rfl,rfl⟩
   exact ⟨uX.extra (by
    clear hk
    induction W with
    | nil=>trivial
    | cons p W ih=>exact ⟨hW p (by simp),ih (fun q hq=>hW q (by simp [hq]))⟩),hk b⟩
  exact hH (by simp only [uK,heff,if_true,Bool.and_eq_true,beq_iff_eq]; exact ⟨h1,h3⟩) hc hq hsel hW a w ha hst
 ·intro b
  rw [her]
  exact hk b
theorem VM_call {i:Nat} {dst:Option Nat} {op:Op} {ty tyj:TypeId} {pos posj:String} {af afj:Array Edge} (hj:ops[j]?=some ⟨some d,.makeMap t none,tyj,posj,afj,none⟩) (heffj:eff.contains j=true) (hdj:decide (d<n)=true)
  (hi:ops[i]?=some ⟨dst,op,ty,pos,af,none⟩) {k:FuncId} {args:List Value} (h:CV P g op k args) (hB:∀ p,CV P ((d,p)::g) op k args) {pre R:Hp} {post:Value→Hp→Prop} (hs:yO P w0 k args pre post) [hL:yJ pre L R] {W':kK} (hW':xF ops i W W')
  (hij:(i==j)=false) (heff:eff.contains i=true) (hd:dst.all (·<n)=true) (hdd:dst.all (· != d)=true)
  (hk:∀ v h,post v h→uX P w0 (h+R) W'∧HoldVM P n w0 ops eff j d t W' (listed.setIfInBounds i true) s Q (wR g dst v) (h+R)):HoldVM P n w0 ops eff j d t W listed (i::s) Q g L:=by
 have hne:i≠j:=by simpa using hij
 have her:(i::s).erase j=i::s.erase j:=by rw [List.erase_cons_tail]; simpa using hij
 have B:∀ b,xC P n w0 ops eff W (listed.setIfInBounds j true) ((i::s).erase j) Q ((d,.map (some b))::g) (pt b (.map #[] 0)+L):=by
  intro b
  rw [her]
  haveI:yJ pre (pt b (.map #[] 0)+L) (pt b (.map #[] 0)+R):=⟨by rw [hL.out]; ac_rfl⟩
  refine xU hi heff M hd (hB _) hs hW' fun v h2 hp=>?_
  obtain ⟨k1,k2⟩:=hk v h2 hp
  have e:h2+(pt b (.map #[] 0)+R)=pt b (.map #[] 0)+(h2+R):=by ac_rfl
  rw [e]
  refine ⟨k1.extra,?_⟩
  have:=k2.2 b
  rw [gD hne] at this
  exact holdW_env (sub_putE hdd) this
 refine ⟨?_,B⟩
 intro hok hokB hc hq hsel hW a w ha hst
 simp only [okV,hij,heff,Bool.and_eq_true,if_true,Bool.false_eq_true,if_false] at hok
 obtain ⟨⟨h1,h2⟩,h3⟩:=hok
 refine ⟨fun e=>(by rw [e] at h2; simp at h2),fun q hq'=>?_⟩
 have hqq:=List.all_eq_true.1 h1 q hq'
 simp only [Bool.or_eq_true,beq_iff_eq] at hqq
 rcases hqq with hqq|hqq
 ·subst hqq
  unfold wpOp
  simp only [hi,wB (o:=⟨dst,op,ty,pos,af,none⟩) (g:=g) ha M,if_true]
  left
  unfold Oper.wp
  rw [h ⟨dst,op,ty,pos,af,none⟩ a w n M ha]
  have hst2:=hst
  rw [hL.out] at hst2
  refine Calls.mono (hs w R hst2) ?_
  rintro e w' ⟨v,h',rfl,hp,hst'⟩
  obtain ⟨k1,k2⟩:=hk v h' hp
  have hh:=vY k1.all hst'
  rw [her] at hokB
  simp only [uK,heff,if_true,Bool.and_eq_true] at hokB
  have hB2:=hokB.2
  rw [gD hne.symm] at hB2
  exact ⟨fun p hp=>(hW'.at p hp).elim (hh p) (fun h=>h w'),WG_sub _ _ _ _ _ _ hW'.at (k2.1 h3 hB2 (hc.set hq') hq hsel k1.all _ w' (ha.put hd v) hst')⟩
 ·subst hqq
  unfold wpOp
  simp only [hj,wB (o:=⟨some d,.makeMap t none,tyj,posj,afj,none⟩) (g:=g) ha M,if_true]
  left
  unfold Oper.wp
  obtain ⟨v,w',L',hrun,⟨b,rfl,rfl⟩,hst'⟩:=ev_mapNew (P:=P) (w0:=w0) (L:=L) (g:=g) (t:=t) ⟨some d,.makeMap t none,tyj,posj,afj,none⟩ a w n rfl ha hst
  have hWx:∀ p∈W,qA P w0 (pt b (.map #[] 0)+L) p.2.1 p.2.2.1 p.2.2.2:=fun p hp=>(hW p hp).extra
  have hB:=B b hokB (hc.set hq') hq hsel hWx (a.put (some d) (.map (some b))) w' (ha.put (by simpa using hdj) _) hst'
  have hlen:((i::s).erase q).length=s.length:=by
   rw [List.length_erase_of_mem (List.mem_cons_of_mem _ (okV_mem h3))]; simp
  rw [hlen] at hB
  have hsub:∀ p∈(W.at P).past ops q,p∈W.at P∨∀ w,p.2 w:=fun p hp=>.inl (List.mem_filter.1 hp).1
  have hh:=vY hWx hst'
  rcases hrun with hrun|⟨hrun,hu⟩
  ·rw [hrun]
   exact ⟨fun p hp=>hh p (List.mem_filter.1 hp).1,WG_sub _ _ _ _ _ _ hsub hB⟩
  ·cases hu
theorem hold_drawVM {id:Nat} [hq:NP Q] (eff:List Nat) (s:List Nat) (j d:Nat) (t:TypeId) (hm:P.follows .mixedOrders=true) (hl:s.length=ops.size) (hs:Region.noSelect ops=true)
  (hok:okV ops eff j (Array.replicate ops.size false) s=true) (hokB:uK ops eff ((Array.replicate ops.size false).setIfInBounds j true) (s.erase j)=true) (h:HoldVM P n w0 ops eff j d t [] (Array.replicate ops.size false) s Q g L):xY P n w0 (.region id ops true) Q g L:=by
 intro a w ha hst
 refine wp_region_any hm (WG_any _ [] _ _ _ ?_)
 rw [← hl]
 have:=h.1 hok hokB (Closed.start ops _) hq hs (by simp) a { w with drawn:=w.drawn+1 } ha hst.drew
 rw [← hl] at this
 exact this
end
set_option maxHeartbeats 16000000
set_option maxRecDepth 4000
set_option synthInstance.maxHeartbeats 400000
set_option synthInstance.maxSize 100000
attribute [local irreducible] xY yW xC
def txn0 :Txn:=⟨0,0,[],[],[],[],0,0⟩
abbrev newCl (k:Cfg) (id:Int) (gs:List Int):Cl :=
 { nodes:=k.nodes,accs:=k.accs,clis:=k.clis,nmem:=k.mem.length,sets:=k.sets,id:=id,addr:=100+id,clock:=0,seq:=0,txns:=0,m:=firstM k,stale:=false,guess:=gs,ended:=[],doubts:=[],round:=0,reqs:=[],cur:=txn0,opn:=false,own:=false,busy:=false,kind:=0,since:=0,waits:=none,coord:=none,about:=0,started:=0,out:=[],ans:=ans0,answered:=false }
theorem new_rest {k:Cfg} {id:Int} {gs:List Int} (hr:RightP k id) (hg:gs.length=5):qP (newCl k id gs):=by
 refine ⟨rfl,⟨hg,by simp,checkR_grp hr.map,by simp [txn0],by simp [txn0],by simp,by simp,⟨hr.mem.2.1,Int.le_refl _⟩⟩,?_,.inr ⟨rfl,⟨rfl,rfl⟩,⟨rfl,rfl,rfl,rfl⟩⟩⟩
 intro i hi
 have:=qX hi
 simp at this
theorem new_sz {k:Cfg} {id:Int} {gs:List Int} (hr:RightP k id) (hg:∀ g∈gs,0≤g∧g≤1000) (hs:SetSz k.sets):Sz 100 (newCl k id gs):=by
 have h1:=hr.id
 have h2:=hr.nodes
 refine ⟨⟨by simp,by simp,by simp,by simp,by simp,⟨h1.1,h1.2,rfl⟩⟩,by simp,by simp,checkR_sz hr.map,⟨⟨xB,xB,xB,xB⟩,by simp [txn0],by simp [txn0],⟨by simp [txn0],by simp [txn0]⟩,⟨by simp [txn0],by simp [txn0],List.Pairwise.nil⟩⟩,⟨by simp,by simp⟩,?_,trivial,⟨by simp,by simp,by simp,by simp,h2,hg⟩,hs⟩
 intro k hk; cases hk
def gJ (k:Cfg):List Int:=(List.range 5).map fun g=>match k.mem[g]? with
 | some l=>l.getD 0 0
 | none=>1
theorem guess0_length (k:Cfg):(gJ k).length=5:=by simp [gJ]
theorem guess_set {G:List Int} {i:Nat} (hi:i<G.length):(G.take i++List.replicate (G.length - i) 0).set i G[i]=G.take (i+1)++List.replicate (G.length - (i+1)) 0:=by
 have h1:(G.take i).length=i:=by rw [List.length_take]; omega
 obtain ⟨n,hn⟩:∃ n,G.length - i=n+1:=⟨G.length - i - 1,by omega⟩
 rw [List.set_append_right _ _ (by omega),h1,Nat.sub_self,hn,List.replicate_succ,List.set_cons_zero,List.take_succ_eq_append_getElem hi,List.append_assoc,show G.length - (i+1)=n by omega]; rfl
theorem new_spec (w0:World) (X:Hp) (k:Cfg) (am ar asx:Option Addr) (cm cr cs:Nat) (id:Int) (h1:RdL w0 X (.slice am k.mem.length cm) k.mem) (h2:RdL w0 X (.slice ar k.rngs.length cr) k.rngs) (h3:RdL w0 X (.slice asx k.sets.length cs) k.sets)
  (hl:k.mem.length≤1000000∧k.rngs.length≤1000000∧k.sets.length≤1000000) (hlm:∀ l∈k.mem,l.length≤1000000) (hep:∀ r∈k.rngs,I64 r.epoch) :
  yO Tryz.prog w0 9 [.agg (dH k (.slice am k.mem.length cm) (.slice ar k.rngs.length cr) (.slice asx k.sets.length cs)).toArray,.int .i64 id] X
   (fun r h'=>(r=.tuple #[.pointer none,.int .i64 3]∧¬ RightQ k id∧X=h')∨∃ b gs E S,r=.tuple #[pB b,.int .i64 0]∧RightP k id∧gs=gJ k∧gs.length=5∧(∀ g∈gs,0≤g∧g≤7)∧kT w0 (X+E) b 0 (newCl k id gs) S∧X+E+S=h'):=by
 refine zN Tryz.func9 M Tryz.ntmps9 Tryz.results9 M fun fr=>?_
 repeat (first|refine zF ?_|refine zB ?_|refine zE ?_|refine zK M M M ?_|refine xJ M (vs:=[_,_,_,_,_,_]) M M M M M ?_|refine xN M (c:=[_,_,_,_,_,_]) M M M (fun _=>?_))
 rename_i b1
 refine zX M M (zQ M M M) (right_spec w0 X k am ar asx cm cr cs id h1 h2 h3 hl hlm hep) ?_
 rintro _ _ ⟨q,rfl,hq,hnq,rfl⟩
 cases q
 ·refine zaB ?_
  exact ⟨[_,_],X,_,⟨rfl,rfl,trivial⟩,.inl ⟨rfl,(fun h=>by cases hnq h),rfl⟩,yJ.out⟩
 replace hq:=hq M
 have hid:=hq.id
 repeat (first|refine zF ?_|refine zE ?_|refine zK M M M ?_|refine zP ?_|refine zI M ?_)
 refine hold_drawVM [4,6,8] [0,1,2,3,5,6,4,7,8,9] 4 16 84 (by kernel_rfl) M (by kernel_rfl) (by kernel_rfl) (by kernel_rfl) ?_
 repeat (first|refine VM_of M M (fun _=>rfl) M M M M ?_|refine VM_load M M (fun _=>rfl) (zL (vs:=[_,_,_,_,_,_]) M M M) M M M M ?_)
 refine VM_pure M (dE M M (by omega) (by omega)) (fun _=>dE M M (by omega) (by omega)) M M M M ?_
 repeat (refine VM_load M M (fun _=>rfl) (zL (vs:=[_,_,_,_,_,_]) M M M) M M M M ?_)
 refine VM_call M M M M (zQ M M M) (fun _=>zQ M M M) (firstMap_spec w0 X k (.slice am k.mem.length cm) (.slice asx k.sets.length cs) ar cr M M h2 hl.2.1) (xF.all _) M M M M ?_
 rintro _ _ ⟨a3,c3,G,rfl,hG,rfl⟩
 refine ⟨zka,?_⟩
 refine VM_now M M M (fun b4=>?_)
 repeat (refine yD M M M M (wJ (vs:=[_,_,_,_,_]) (cells:=(_::_::_::_::_::_::_::_::_::_::_::_::_::_::_::_::_::_::_::_::_::_::_::_::_::_::_::_::_::_::_::_::_::_::_::_::_::_::[])) M M) ?_)
 refine xS M M M M (ev_box M) (xF.all _) ?_
 rintro _ _ ⟨b5,rfl,rfl⟩
 refine ⟨zka,?_⟩
 refine zaD ?_
 refine zcH ?_
 refine zX M M (zQ M M M) (cloneSpns_spec w0 X _ k.sets h3 (by omega)) ?_
 rintro vs _ ⟨hc,hcl,rfl⟩
 obtain ⟨as2,cs2,rfl⟩:=hcl.shape
 refine zbV ?_
 refine kF M M (ev_makeSlice (n:=5) M M M (by decide) (by decide)) ?_
 rintro _ _ ⟨bG,rfl,rfl⟩
 refine zdU ?_
 have hG0:(List.replicate 5 (Value.int .i64 0).cells.toList).flatten.toArray=(([0,0,0,0,0]:List Int).map (Value.int .i64)++([]:List Value)).toArray:=rfl
 rw [hG0]
 clear hG0
 refine yN 5 (fun i g L=>∃ (gs:List Int) (R:Hp),g=[(2,pB b1),(6,pB b5),(36,.int .i64 ((5:Nat):Int)),(37,.int .i64 (i:Int))]∧gs.length=5∧(∀ g∈gs,0≤g∧g≤7)∧gs=(gJ k).take i++List.replicate ((gJ k).length - i) 0 ∧
  L=cliC b5 (.int .i64 k.nodes::.int .i64 k.accs::.int .i64 k.clis::.slice am k.mem.length cm::.slice ar k.rngs.length cr::.slice as2 k.sets.length cs2::.int .i64 id::.int .i64 (100+id)::.int .i64 0::.int .i64 0::.int .i64 0::.slice a3 k.rngs.length c3::.int .i64 (firstM k).epoch::.int .i64 0::.int .i64 0::.int .i64 0::.int .i64 0::.int .i64 0::.bool false::.slice (some ⟨bG,0,none⟩) 5 5::.map (some b4)::.slice none 0 0::.int .i64 0::.slice none 0 0::.pointer none::.bool false::.int .i64 0::.int .i64 0::.pointer none::.nilFunc::.pointer none::.int .i64 0::.int .i64 0::.slice none 0 0::.int .i64 0::.int .i64 0::.slice none 0 0::.bool false::[]) +
   (pt bG (.cells (gs.map (Value.int .i64)++([]:List Value)).toArray 3 (0,0))+(X+hc+(pt b4 (.map #[] 0)+(G+(pt b1 (.cells (dH k (.slice am k.mem.length cm) (.slice ar k.rngs.length cr) (.slice asx k.sets.length cs)).toArray 32 (0,0))+fr)))))+R) _
  ⟨[0,0,0,0,0],0,rfl,rfl,by simp,by rw [guess0_length]; rfl,by rw [yA]⟩ zsb ?_
 rintro i g L hi ⟨gs,R,rfl,hgl,hgs,hge,rfl⟩
 have hG5:=guess0_length k
 refine zaH ?_
 refine yF M M (yS M M) (fun n1=>?_) (fun n1=>?_)
 ·have hi5:i<5:=by omega
  have hig:i<gs.length:=by omega
  have hi6:i<(gJ k).length:=by omega
  have hgi:(gJ k)[i]=(match k.mem[i]? with|some l=>l.getD 0 0|none=>1):=by simp only [gJ,List.getElem_map,List.getElem_range]
  have hset:∀ v:Int,v=(gJ k)[i]→gs.set i v=(gJ k).take (i+1)++List.replicate ((gJ k).length - (i+1)) 0:=by
   intro v hv
   rw [hge,hv]; exact guess_set hi6
  repeat (first|refine zF ?_|refine zR ?_|refine zB ?_|refine zE ?_|refine zK M M M ?_|refine zY M M M M M ?_|refine yM M M M M M ?_|refine zP ?_|refine zJ M ?_|refine kC M M (by omega) M M ?_)
  refine kF M M (kA (c:=gs.map (Value.int .i64)++[]) M M M M (cells_getI gs [] hig) (cells_setI gs [] hig 1)) ?_
  rintro _ _ rfl
  repeat (first|refine zF ?_|refine zB ?_|refine zE ?_|refine zK M M M ?_|refine zY M M M M M ?_|refine yM M M M M M ?_|refine yT M M M ?_)
  have hg1:∀ g∈gs.set i 1,0≤g∧g≤7:=by
   intro g hg
   rcases List.mem_or_eq_of_mem_set hg with hg|rfl
   ·exact hgs g hg
   ·omega
  refine yF M M (yS M M) (fun n2=>?_) (fun n2=>?_)
  ·have hx:i<k.mem.length:=by omega
   obtain ⟨bq,oq,rfl,e,he,hat⟩:=h1.at hx
   obtain ⟨al,cl,rfl,hrd⟩:=_root_.id he
   have hbad:=hq.mem.2.2 _ (List.getElem_mem hx)
   rw [List.getElem?_eq_getElem hx] at hgi
   generalize k.mem[i]=l at *
   have hbad:=of_decide_eq_false hbad
   have h0:0<l.length:=List.length_pos_iff.2 (fun e=>hbad (.inl e))
   have hv:1≤l[0]∧l[0]≤k.nodes:=by
    have:=List.getElem_mem h0
    by_cases h:l[0]<1∨k.nodes<l[0]
    ·exact absurd (.inr ⟨_,this,h⟩) hbad
    ·omega
   have hn:=hq.nodes
   obtain ⟨bl,ol,rfl,e1,rfl,hat1⟩:=hrd.at h0
   have hig2:i<(gs.set i 1).length:=by rw [List.length_set]; exact hig
   repeat (first|refine zE ?_|refine zJ M ?_)
   refine yB [13] [0,1,2,3,4,5,6,7,8,9,10,11,12,13] (by kernel_rfl) M (by kernel_rfl) (by kernel_rfl) ?_
   repeat (first|refine yH M M M M M ?_|refine yD M M M M (zZ M M M) ?_|refine yQ M M M M (yE M) (zG M (zS M)) ?_|refine gY M M M (by omega) M M M ?_|refine W_atf M M (by assumption) M M M M M ?_|refine W_at M M (by assumption) M M M M M ?_)
   refine xS M M M M (kA (c:=(gs.set i 1).map (Value.int .i64)++[]) M M M M (cells_getI (gs.set i 1) [] hig2) (cells_setI (gs.set i 1) [] hig2 l[0])) (xF.all _) ?_
   rintro _ _ rfl
   refine ⟨zka,?_⟩
   repeat (refine yI ?_)
   refine zaI ?_
   refine ⟨hi5,_,zsb,(gs.set i 1).set i l[0],_,rfl,by rw [List.length_set,List.length_set]; exact hgl,?_,?_,yJ.out⟩
   ·intro g hg
    rcases List.mem_or_eq_of_mem_set hg with hg|rfl
    ·exact hg1 g hg
    ·omega
   ·rw [List.set_set]
    refine hset _ ?_
    rw [hgi]
    show l[0]=l.getD 0 0
    rw [List.getD_eq_getElem?_getD,List.getElem?_eq_getElem h0]; rfl
  ·refine zaJ ?_
   exact ⟨hi5,_,zsb,gs.set i 1,_,rfl,by rw [List.length_set]; exact hgl,hg1,hset _ (by rw [hgi,List.getElem?_eq_none (by omega)]),yJ.out⟩
 ·refine zaK ?_
  have hgO:OwL w0 0 gs (.slice (some ⟨bG,0,none⟩) gs.length 5) (pt bG (.cells (gs.map (Value.int .i64)++([]:List Value)).toArray 3 (0,0))):=by
   refine gF.2 ?_
   have:=jH (E:=3) (b:=bG) (cap:=5) (spare:=[]) (size:=1) (bL gs) (by rw [kM]; omega) (by unfold maxLen; omega) (by rw [kM,hgl]; rfl)
   rw [flat1,kM] at this
   exact this
  rw [hgl] at hgO
  have hcl0:OwL w0 0 k.sets (.slice as2 k.sets.length cs2) hc:=by
   obtain ⟨es,q1,q2⟩:=hcl
   exact ⟨es,q1,kU.mono (S:=Rep.rd w0 0) (fun x e he=>he) q2⟩
  have HP:xT w0 (X+(hc+G)) b5 (newCl k id gs) ⟨.slice am k.mem.length cm,.slice ar k.rngs.length cr,.slice as2 k.sets.length cs2,.slice a3 k.rngs.length c3,.slice (some ⟨bG,0,none⟩) 5 5,.map (some b4),.slice none 0 0,.slice none 0 0,.pointer none,.pointer none,.nilFunc,.pointer none,.slice none 0 0,.slice none 0 0⟩ 0 [] (pt bG (.cells (gs.map (Value.int .i64)++([]:List Value)).toArray 3 (0,0))) (pt b4 (.map #[] 0)) 0 0 0 0 0 :=
   { mem:=⟨_,_,rfl⟩,rngs0:=rfl,sets:=⟨_,_,rfl,hcl0.rdh.mono (R:=X+G) (by ac_rfl)⟩,mr:=⟨_,_,rfl,hG.mono (R:=X+hc) (by ac_rfl)⟩,guess:=hgO,ended:=⟨b4,rfl,qT.empty b4⟩,dbts:=OwL.nil _ none,reqs:=⟨0,0,OwL.nil _ none,rfl,(yA 0).symm⟩,opn:=rfl,own:=rfl,txn:=.inr ⟨rfl,rfl,rfl⟩,waits:=rfl,coord:=⟨rfl,rfl⟩,out:=OwL.nil _ none,ansd:=⟨_,_,rfl,RdL.nil _ _ _⟩ }
  have hgf:gs=gJ k:=by rw [hge,show (gJ k).length - i=0 by omega,List.take_of_length_le (by omega)]; simp
  exact ret_cli [_,_] ⟨rfl,rfl,trivial⟩ HP M (.inr ⟨b5,gs,hc+G,_,rfl,hq,hgf,hgl,hgs,⟨_,_,_,_,_,_,_,_,_,HP,rfl⟩,rfl⟩)
def cfg1 :Cfg:=⟨3,1,1,[[1,2,3],[1,2,3]],[⟨0,64,1,1⟩],[⟨0,4⟩]⟩
abbrev cal1 (k b:Int):Cal:=⟨k,b,0,0,0,0,0,0,0,0,0,0⟩
abbrev m5 :Msg:=⟨11,1,101,0,0,0,0,0,0,1048577,1,0,1,0,true,[],[]⟩
theorem right1 :RightQ cfg1 1:=⟨by decide,by decide +kernel,by decide +kernel,by decide +kernel,by decide +kernel⟩
theorem good5 :GoodP m5∧(bodyF m5).length≤65536:=by
 refine ⟨⟨by decide +kernel,?_,by decide +kernel,rfl,⟨rfl,by decide,by decide,?_⟩⟩,by decide +kernel⟩
 ·have:∀ k:_root_.Fin 11,(numsF m5).getD k.val 0≠0→(k.val:Int)∈hasF m5.kind:=by decide +kernel
  exact fun k hk=>this ⟨k,hk⟩
 ·have:∀ k:_root_.Fin 11,(k.val:Int)∈hasF m5.kind→rngF k.val ((numsF m5).getD k.val 0)=true:=by decide +kernel
  exact fun k hk=>this ⟨k,hk⟩
theorem works_facts :∃ p1 p2 p3 p4 p5:Cl × Rsp,p1=wG (newCl cfg1 1 (gJ cfg1)) (cal1 1 0) []∧p2=wG p1.1 (cal1 3 4) [1,2,3,4]∧p3=wG p2.1 (cal1 2 4) []∧p4=wG p3.1 (cal1 4 0) []∧p5=dL p4.1 1 101 (vC (bodyF m5)++bodyF m5) ∧
  p1.2.ans.txn=1048577∧p2.2.ans.code=0∧p3.2.ans.data=[1,2,3,4]∧(∃ q,p4.2.out=[q]∧q.dst=1)∧p4.2.answered=false∧p5.2.answered=true∧p5.2.ans.code=0∧p5.2.out.length=1∧p5.1.opn=false:=by
 refine ⟨_,_,_,_,_,rfl,rfl,rfl,rfl,rfl,by decide +kernel,by decide +kernel,by decide +kernel,?_,by decide +kernel,by decide +kernel,by decide +kernel,by decide +kernel,by decide +kernel⟩
 have h:((wG (wG (wG (wG (newCl cfg1 1 (gJ cfg1)) (cal1 1 0) []).1 (cal1 3 4) [1,2,3,4]).1 (cal1 2 4) []).1 (cal1 4 0) []).2.out.map (·.dst))=[1]:=by decide +kernel
 exact List.map_eq_singleton_iff.1 h
theorem rd_left {α:Type} [ρ:Rep α] {w0:World} {A h5 h7:Hp} {v:Value} {xs:List α} (H:OwL w0 0 xs v h5):RdL w0 (A+(h5+h7)) v xs:=H.rdh.mono (R:=A+h7) (by ac_rfl)
theorem rd_right {α:Type} [ρ:Rep α] {w0:World} {A h5 h7:Hp} {v:Value} {xs:List α} (H:OwL w0 0 xs v h7):RdL w0 (A+(h5+h7)) v xs:=H.rdh.mono (R:=A+h5) (by ac_rfl)
theorem one28_spec (w0:World):yO Tryz.prog w0 10 [] 0 (fun r h'=>∃ am ar ax cm cr cx,r=.agg (dH cfg1 (.slice am cfg1.mem.length cm) (.slice ar cfg1.rngs.length cr) (.slice ax cfg1.sets.length cx)).toArray ∧
  RdL w0 h' (.slice am cfg1.mem.length cm) cfg1.mem∧RdL w0 h' (.slice ar cfg1.rngs.length cr) cfg1.rngs∧RdL w0 h' (.slice ax cfg1.sets.length cx) cfg1.sets):=by
 refine zN Tryz.func10 M Tryz.ntmps10 Tryz.results10 M fun fr=>?_
 repeat (first|refine zF ?_|refine zB ?_|refine zE ?_|refine zM ?_|refine yL (vs:=[_,_]) (cells:=[_,_]) M M M M ?_|refine yL (vs:=[_,_,_,_]) (cells:=[_,_,_,_]) M M M M ?_|refine yL (vs:=[_,_,_,_,_,_]) (cells:=[_,_,_,_,_,_]) M M M M ?_|refine yY M (vs:=[_,_,_,_,_,_]) M M M M (c':=[_,_,_,_,_,_]) M M ?_|refine xK (c:=[_,_,_,_,_,_]) M M M (fun _=>?_)|refine vM (vs:=[_]) (cells:=[_,_]) M M M M M M (fun _=>?_)|refine vM (vs:=[_]) (cells:=[_,_,_,_]) M M M M M M (fun _=>?_)|refine vM (vs:=[_,_]) (cells:=[_,_]) M M M M M M (fun _=>?_)|refine vM (vs:=[_,_,_]) (cells:=[_,_,_]) M M M M M M (fun _=>?_))
 rename_i b0 b1 b2 b3 b5 b7
 have o1:=qZ (b:=b1) (w0:=w0) [1,2,3] 3 rfl (by decide)
 have o2:=qZ (b:=b2) (w0:=w0) [1,2,3] 3 rfl (by decide)
 simp only [List.map_cons,List.map_nil] at o1 o2
 have o3:OwL w0 (pt b1 (.cells [.int .i64 1,.int .i64 2,.int .i64 3].toArray 3 (0,0))+pt b2 (.cells [.int .i64 1,.int .i64 2,.int .i64 3].toArray 3 (0,0))) cfg1.mem (.slice (some ⟨b3,0,none⟩) 2 2) (pt b3 (.cells [.slice (some ⟨b1,0,none⟩) 3 3,.slice (some ⟨b2,0,none⟩) 3 3].toArray 61 (0,0))) :=
  ⟨[[.slice (some ⟨b1,0,none⟩) 3 3],[.slice (some ⟨b2,0,none⟩) 3 3]],jH (spare:=[]) (by simp; rfl) (Nat.le_refl 2) (by unfold maxLen; omega) M,⟨_,_,rfl,o1.rdh.mono M⟩,⟨_,_,rfl,o2.rdh.mono (uQ _ _)⟩,trivial⟩
 have o5:OwL w0 0 cfg1.rngs (.slice (some ⟨b5,0,none⟩) 1 1) (pt b5 (.cells [.int .i64 0,.int .i64 64,.int .i64 1,.int .i64 1].toArray 80 (0,0))) :=
  ⟨[[.int .i64 0,.int .i64 64,.int .i64 1,.int .i64 1]],jH (spare:=[]) (by simp; rfl) (Nat.le_refl 1) (by unfold maxLen; omega) M,rfl,trivial⟩
 have o7:OwL w0 0 cfg1.sets (.slice (some ⟨b7,0,none⟩) 1 1) (pt b7 (.cells [.int .i64 0,.int .i64 4].toArray 78 (0,0))) :=
  ⟨[[.int .i64 0,.int .i64 4]],jH (spare:=[]) (by simp; rfl) (Nat.le_refl 1) (by unfold maxLen; omega) M,rfl,trivial⟩
 exact ⟨[_],pt b1 (.cells [.int .i64 1,.int .i64 2,.int .i64 3].toArray 3 (0,0))+pt b2 (.cells [.int .i64 1,.int .i64 2,.int .i64 3].toArray 3 (0,0))+pt b3 (.cells [.slice (some ⟨b1,0,none⟩) 3 3,.slice (some ⟨b2,0,none⟩) 3 3].toArray 61 (0,0))+(pt b5 (.cells [.int .i64 0,.int .i64 64,.int .i64 1,.int .i64 1].toArray 80 (0,0))+pt b7 (.cells [.int .i64 0,.int .i64 4].toArray 78 (0,0))),_,
  ⟨⟨_,rfl,zL (vs:=[_,_,_,_,_,_]) M M M⟩,trivial⟩,⟨_,_,_,_,_,_,rfl,o3.rd (R:=_) (hf:=⟨rfl⟩),rd_left o5,rd_right o7⟩,yJ.out⟩
section
variable (w0:World) (X:Hp) (b tb:Nat) (c:Cl) (S:Hp) (n:Nat)
theorem txnNo_spec (hS:kT w0 X b tb c S) (h:c.opn=false):yO Tryz.prog w0 22 [pB b] (X+S) (fun r h'=>r=.int .i64 0∧X+S=h'):=by
 obtain ⟨⟨vmem,vr0,vsets,vmr,vg,ve,vd,vrq,vop,vow,vw,vco,vou,van⟩,ps,hG,hE,hD,hR,hT,hK,hO,P,rfl⟩:=hS
 have e:=P.opn
 rw [h] at e
 simp only at e
 obtain rfl:vop=.pointer none:=e
 refine zN Tryz.func22 M Tryz.ntmps22 Tryz.results22 M fun fr=>?_
 refine zbA ?_
 refine yG M M (kZ M M) ?_
 refine zaB ?_
 exact ⟨[_],X+_,_,⟨rfl,trivial⟩,⟨rfl,rfl⟩,yJ.out⟩
theorem calling0_spec (x:Cal) (hS:kT w0 X b tb c S) (hZ:Sz n c) (hn:n+200≤100000000) (hA:qP c) (hx:qH x) :
  yO Tryz.prog w0 11 [pB b,.agg (xW x (.slice none 0 0)).toArray] (X+S) (fun r h'=>∃ tb',Fin w0 X b tb' (wG c x []).1 (wG c x []).2 r h'):=by
 have h:=calling_spec w0 X b tb c S n x 0 [] none 0 (RdL.nil _ _ _) (by decide) hS hZ hn hA hx
 rw [yA] at h
 refine h.mono ?_
 rintro r _ ⟨tb',h1,hF,rfl⟩
 rw [yA]
 exact ⟨tb',hF⟩
end
theorem cal1_sz (k b:Int) (hb:I64 b):qH (cal1 k b):=⟨hb,xB,xB,xB,xB,xB,xB,xB⟩
theorem works_spec (w0:World):yO Tryz.prog w0 8 [] 0 fun v _=>v=.bool true:=by
 obtain ⟨p1,p2,p3,p4,p5,e1,e2,e3,e4,e5,f1,f2,f3,f4,f5,f6,f7,f8,f9⟩:=works_facts
 refine zN Tryz.func8 M Tryz.ntmps8 Tryz.results8 M fun fr=>?_
 refine zaC ?_
 refine zX M M (zQ M M M) (one28_spec w0) ?_
 rintro _ H ⟨am,ar,ax,cm,cr,cx,rfl,q1,q2,q3⟩
 skip
 refine zX M M (zQ M M M) (new_spec w0 H cfg1 am ar ax cm cr cx 1 q1 q2 q3 (by decide) (by decide) (by decide)) ?_
 rintro _ _ (⟨rfl,hno,rfl⟩|⟨b,gs,E,S,rfl,hr,rfl,hgl,hgs,hS,rfl⟩)
 ·exact absurd right1 hno
 have A0:=new_rest hr hgl
 have Z0:=new_sz hr (fun g hg=>by have:=hgs g hg; omega) (show SetSz cfg1.sets from ⟨by decide,by decide⟩)
 refine zaC ?_
 refine yP M M (xZ M M) (by decide) ?_
 repeat (refine zK M M M ?_)
 refine yG M M (kZ M M) ?_
 refine zaW ?_
 refine zX M M (zQ M M M) (callV_spec w0 1 0 none 0 0) ?_
 rintro _ _ ⟨rfl,rfl⟩
 skip
 refine zX M M (zQ M M M) (calling0_spec w0 (H+E) b 0 _ S 100 (cal1 1 0) hS Z0 (by omega) A0 (cal1_sz _ _ xB)) ?_
 have A1:=(call_ok A0 (cal1 1 0) []).1
 have Z1:=Z0.call (by omega) A0.2.1 (cal1_sz 1 0 xB) []
 rw [← e1] at A1 Z1 ⊢
 rintro _ _ ⟨t1,E1,S1,ho1,⟨vo1,ad1,cd1,rfl,hout1,hans1⟩,hS1,rfl⟩
 obtain ⟨ao1,co1,rfl⟩:=hout1.shape
 clear e1
 repeat (first|refine zF ?_|refine zB ?_|refine zE ?_|refine zK M M M ?_|refine yY M (vs:=[_,_,_]) M M M M (c':=[_,_,_]) M M ?_|refine xK (c:=[_,_,_]) M M M (fun _=>?_)|refine vM (vs:=[_,_,_,_]) (cells:=[_,_,_,_]) M M M M M M (fun _=>?_))
 rename_i b4 bd
 have oD:OwL w0 0 ([1,2,3,4]:List Bt) (.slice (some ⟨bd,0,none⟩) 4 4) (pt bd (.cells [.int .u8 1,.int .u8 2,.int .u8 3,.int .u8 4].toArray 5 (0,0))) :=
  ⟨[[.int .u8 1],[.int .u8 2],[.int .u8 3],[.int .u8 4]],jH (spare:=[]) (by simp; rfl) (Nat.le_refl 4) (by unfold maxLen; omega) M,rfl,rfl,rfl,rfl,trivial⟩
 refine zX M M (zQ M M M) (callV_spec w0 3 4 (some ⟨bd,0,none⟩) 4 4) ?_
 rintro _ _ ⟨rfl,rfl⟩
 skip
 refine zX M M (zQ M M M) (calling_spec w0 (H+E+E1) b t1 p1.1 S1 (100+100) (cal1 3 4) _ [1,2,3,4] _ 4 oD.rdh (by decide) hS1 Z1 (by omega) A1 (cal1_sz _ _ (by unfold I64; omega))) ?_
 have A2:=(call_ok A1 (cal1 3 4) [1,2,3,4]).1
 have Z2:=Z1.call (by omega) A1.2.1 (cal1_sz 3 4 (by unfold I64; omega)) [1,2,3,4]
 rw [← e2] at A2 Z2 ⊢
 rintro _ _ ⟨t2,_,⟨E2,S2,ho2,⟨vo2,ad2,cd2,rfl,hout2,hans2⟩,hS2,rfl⟩,rfl⟩
 obtain ⟨ao2,co2,rfl⟩:=hout2.shape
 clear e2 hS1
 repeat (first|refine zF ?_|refine zB ?_|refine zE ?_|refine zK M M M ?_|refine yY M (vs:=[_,_,_]) M M M M (c':=[_,_,_]) M M ?_|refine xK (c:=[_,_,_]) M M M (fun _=>?_))
 rename_i b7
 refine zX M M (zQ M M M) (callV_spec w0 2 4 none 0 0) ?_
 rintro _ _ ⟨rfl,rfl⟩
 skip
 refine zX M M (zQ M M M) (calling0_spec w0 (H+E+E1+E2) b t2 p2.1 S2 (100+100+100) (cal1 2 4) hS2 Z2 (by omega) A2 (cal1_sz _ _ (by unfold I64; omega))) ?_
 have A3:=(call_ok A2 (cal1 2 4) []).1
 have Z3:=Z2.call (by omega) A2.2.1 (cal1_sz 2 4 (by unfold I64; omega)) []
 rw [← e3] at A3 Z3 ⊢
 rintro _ _ ⟨t3,E3,S3,ho3,⟨vo3,ad3,cd3,rfl,hout3,hans3⟩,hS3,rfl⟩
 obtain ⟨ao3,co3,rfl⟩:=hout3.shape
 clear e3 hS2
 repeat (first|refine zF ?_|refine zB ?_|refine zE ?_|refine zK M M M ?_|refine yY M (vs:=[_,_,_]) M M M M (c':=[_,_,_]) M M ?_|refine xK (c:=[_,_,_]) M M M (fun _=>?_))
 rename_i b10
 refine zX M M (zQ M M M) (callV_spec w0 4 0 none 0 0) ?_
 rintro _ _ ⟨rfl,rfl⟩
 skip
 refine zX M M (zQ M M M) (calling0_spec w0 (H+E+E1+E2+E3) b t3 p3.1 S3 (100+100+100+100) (cal1 4 0) hS3 Z3 (by omega) A3 (cal1_sz _ _ xB)) ?_
 have A4:=(call_ok A3 (cal1 4 0) []).1
 have Z4:=Z3.call (by omega) A3.2.1 (cal1_sz 4 0 xB) []
 rw [← e4] at A4 Z4 ⊢
 rintro _ _ ⟨t4,E4,S4,ho4,⟨vo4,ad4,cd4,rfl,hout4,hans4⟩,hS4,rfl⟩
 obtain ⟨q,f4,hqd⟩:=f4
 have hl4:p4.2.out.length=1:=by rw [f4]; rfl
 have hq0:∀ (h:0<p4.2.out.length),p4.2.out[0].dst=1:=by rw [f4]; exact fun _=>hqd
 obtain ⟨ao4,co4,rfl⟩:=hout4.shape
 rw [f5]
 clear e4 hS3
 repeat (first|refine zF ?_|refine zB ?_|refine zE ?_|refine zK M M M ?_|refine yL (vs:=[_,_,_,_,_,_,_]) (cells:=[_,_,_,_,_,_,_,_,_,_,_,_,_,_,_,_,_]) M M M M ?_|refine yY M (vs:=[_,_,_]) M M M M (c':=[_,_,_]) M M ?_|refine xK (c:=[_,_,_]) M M M (fun _=>?_))
 rename_i b13
 refine zX M M (zQ M M M) (packet_spec w0 H m5 none none 0 0 (RdL.nil _ _ _) (RdL.nil _ _ _) (by decide) (by decide) (by decide)) ?_
 rintro _ _ ⟨bs,ab,cb,E5,rfl,hb,hbl,hbc,hbx,rfl⟩
 have hbs:=hbx.1 good5
 rw [← hbs] at e5
 clear hbx hbs
 skip
 refine zX M M (zQ M M M) (taking_spec w0 (H+E+E1+E2+E3+E4+E5) b t4 p4.1 S4 (100+100+100+100+100) (hS4.mono M) Z4 (by omega) A4.2.1 A4.2.2.2 1 101 bs ab cb (hb.mono (R:=H+E+E1+E2+E3+E4) (by ac_rfl)) (by omega) hbc) ?_
 rw [← e5]
 rintro _ _ ⟨E6,S5,ho5,⟨vo5,ad5,cd5,rfl,hout5,hans5⟩,hS5,rfl⟩
 obtain ⟨ao5,co5,rfl⟩:=hout5.shape
 rw [f6]
 clear e5 hS4
 repeat (first|refine zF ?_|refine zB ?_|refine zE ?_|refine zK M M M ?_|refine zY M M M M M ?_|refine yM M M M M M ?_|refine yY M (vs:=[_,_,_]) M M M M (c':=[_,_,_]) M M ?_|refine xK (c:=[_,_,_]) M M M (fun _=>?_))
 rename_i b16
 refine kD M M (yK M M) f1 ?_
 refine zaN ?_
 refine kD M M (yK M M) f2 ?_
 repeat (first|refine zK M M M ?_|refine zY M M M M M ?_|refine yM M M M M M ?_|refine vM (vs:=[_,_,_,_]) (cells:=[_,_,_,_]) M M M M M M (fun _=>?_))
 rename_i b77
 have oS:OwL w0 0 ([1,2,3,4]:List Bt) (.slice (some ⟨b77,0,none⟩) 4 4) (pt b77 (.cells [.int .u8 1,.int .u8 2,.int .u8 3,.int .u8 4].toArray 5 (0,0))) :=
  ⟨[[.int .u8 1],[.int .u8 2],[.int .u8 3],[.int .u8 4]],jH (spare:=[]) (by simp; rfl) (Nat.le_refl 4) (by unfold maxLen; omega) M,rfl,rfl,rfl,rfl,trivial⟩
 refine zX M M (zQ M M M) (sameB_spec w0 (H+E+E1+E2+E3+pt b77 (.cells [.int .u8 1,.int .u8 2,.int .u8 3,.int .u8 4].toArray 5 (0,0))) (.slice ad3 p3.2.ans.data.length cd3) (.slice (some ⟨b77,0,none⟩) 4 4) p3.2.ans.data [1,2,3,4] (hans3.mono M) (oS.rdh.mono (R:=H+E+E1+E2+E3) (by ac_rfl)) (by rw [f3]; decide) (by decide)) ?_
 rintro _ _ ⟨rfl,rfl⟩
 rw [decide_eq_true f3]
 refine zcF ?_
 refine kD M M (yK M M) (by omega) ?_
 have hr4:RdL w0 (H+E+E1+E2+E3+E4+ho4) (.slice ao4 p4.2.out.length co4) p4.2.out:=hout4.rd (hf:=⟨(yA _).symm⟩)
 obtain ⟨b8,o8,rfl,e8,he8,hat8⟩:=hr4.at (i:=0) (by omega)
 obtain ⟨a9,c9,rfl,hr9⟩:=id he8
 have hqd0:=hq0 (by omega)
 repeat (refine zK M M M ?_)
 refine yG M M (wT (i:=0) M M (by omega)) ?_
 repeat (first|refine zY M M M M M ?_|refine gO M (by assumption) M M M M ?_)
 refine kD M M (yK M M) hqd0 ?_
 refine zaN ?_
 refine kD M M (yK M M) f7 ?_
 refine zcF ?_
 refine kD M M (yK M M) (by omega) ?_
 repeat (refine zK M M M ?_)
 refine zX M M (zQ M M M) (txnNo_spec w0 (H+E+E1+E2+E3+E4+E5+E6) b t4 p5.1 S5 hS5 f9) ?_
 rintro _ _ ⟨rfl,rfl⟩
 skip
 refine kD M M (yK M M) M ?_
 refine zaE ?_
 exact ⟨[_],0,_,⟨rfl,trivial⟩,rfl,yJ.out⟩
structure MsgI (m:Msg):Prop where
 kind:I64 m.kind
 src:I64 m.src
 dst:I64 m.dst
 index:I64 m.index
 txn:I64 m.txn
 part:I64 m.part
 ballot:I64 m.ballot
 value:I64 m.value
structure LopIn (o:Lop):Prop where
 len:LenLop o
 x:qH o.x
 m:MsgI o.m
end Sl
end Go.Proofs.YtfahijncpmlhjaaGreat
namespace Go.Proofs.YtfahijncpmlhjaaGreat.clIn
open Sl
open Go.ChangeShapes Go.WideShapes Go.ChangeAt Go.RowKit Go.Deep Go.Joins
set_option maxRecDepth 100000
set_option maxHeartbeats 4000000
section
variable {H:Type} {enc:TypeId × Value→H} {w0:World}
theorem open_cap {fuel:Nat} {ad:Option Addr} {n c:Nat} {t e:TypeId} {d:DataW H} {p:List MemPlace} (ht:Tryz.prog.underlying t=some (.slice e)) (h:DataW.trod enc Tryz.prog w0 0 (fun _=>true) true fuel t [.slice ad n c]=some (d,p)):n≤c:=by
 rcases open_slice ht h with ⟨hc,_⟩|⟨a,len,cap,m,n',D,Pl,hc,_,hl,_⟩
 ·simp only [List.cons.injEq,Value.slice.injEq,and_true] at hc
  omega
 ·simp only [List.cons.injEq,Value.slice.injEq,and_true] at hc
  omega
theorem qI {n k:Nat} {cs:List Value} {c:Value} {y:Option (DataW H × List MemPlace)} {z:DataW H × List MemPlace} (h:DataW.trod enc Tryz.prog w0 0 (fun _=>true) true n 3 ((cs.drop k).take (Tryz.prog.cellsOf 3))=y) (hy:y=some z) (hc:(cs.drop k).take 1=[c]):∃ m:Int,c=.int .i64 m∧Sl.I64 m:=by
 rw [show Tryz.prog.cellsOf 3=1 by kernel_rfl,hc,hy] at h
 obtain ⟨m,e,u⟩:=open_int1 (D:=z.1) (Pl:=z.2) h
 simp only [List.cons.injEq,and_true] at e
 exact ⟨m,e,u⟩
theorem open_ent {fuel:Nat} {x:List Value} {D:DataW H} {Pl:List MemPlace} (h:DataW.trod enc Tryz.prog w0 0 (fun _=>true) true fuel 203 x=some (D,Pl)) (hB:∀ m∈D.weights Tryz.prog 203,m≤reachBytes) :
  ∃ q:Ent,Rep.rd w0 0 q x:=by
 obtain ⟨xs,n,_,hd,hl,hlen,hf⟩:=DataW.trod_struct Tryz.underlying203 h
 have hlen':xs.length=3:=hlen
 clear hlen
 obtain ⟨y0,y1,y2,rfl⟩:∃ y0 y1 y2,xs=[y0,y1,y2]:=by
  match xs,hlen' with
  | [y0,y1,y2],_=>exact ⟨y0,y1,y2,rfl⟩
 simp only [Prod.mk.injEq,List.map_cons,List.map_nil] at hd
 obtain ⟨rfl,_⟩:=hd
 rw [show Tryz.prog.cellsOf 203=3 by kernel_rfl] at hl
 obtain ⟨c0,c1,c2,rfl⟩:∃ c0 c1 c2,x=[c0,c1,c2]:=by
  match x,hl with
  | [c0,c1,c2],_=>exact ⟨c0,c1,c2,rfl⟩
 obtain ⟨n0,rfl,u0⟩:=qI (k:=0) (hf 0 _ rfl) rfl rfl
 obtain ⟨n1,rfl,u1⟩:=qI (k:=1) (hf 1 _ rfl) rfl rfl
 have h2:DataW.trod enc Tryz.prog w0 0 (fun _=>true) true n 35 (([.int .i64 n0,.int .i64 n1,c2].drop 2).take (Tryz.prog.cellsOf 35))=some y2:=hf 2 _ rfl
 rw [show Tryz.prog.cellsOf 35=1 by kernel_rfl] at h2
 obtain ⟨l2,r2,z2⟩:=open_bytes (d:=y2.1) (p:=y2.2) h2 (fun m hm=>hB m (by
  simp only [DataW.weights,Tryz.underlying203]
  exact DataW.weights_mem_each (j:=2) (t:=35) M M m hm))
 obtain ⟨a2,s2,rfl⟩:=r2.shape
 have hrb:=reachBytes_lt
 exact ⟨⟨n0,n1,l2⟩,a2,s2,rfl,r2⟩
theorem open_ents {fuel:Nat} {v:Value} {d:DataW H} {p:List MemPlace} (h:DataW.trod enc Tryz.prog w0 0 (fun _=>true) true fuel 53 [v]=some (d,p)) (hB:∀ n∈d.weights Tryz.prog 53,n≤reachBytes) :
  ∃ l:List Ent,RdL w0 0 v l∧l.length*40≤reachBytes∧∀ q∈l,True :=
 open_list (α:=Ent) (B:=40) (fun q=>True) Tryz.underlying53 (show Tryz.prog.cellsOf 203=_ by kernel_rfl) (by decide) (by kernel_rfl) (fun n x D Pl hx hw=>(open_ent hx hw).imp fun q h=>⟨h,trivial⟩) h hB
theorem open_rng {fuel:Nat} {x:List Value} {D:DataW H} {Pl:List MemPlace} (h:DataW.trod enc Tryz.prog w0 0 (fun _=>true) true fuel 80 x=some (D,Pl)) (hB:∀ m∈D.weights Tryz.prog 80,m≤reachBytes) :
  ∃ q:Rng,Rep.rd w0 0 q x∧Sl.I64 q.epoch:=by
 obtain ⟨xs,n,_,hd,hl,hlen,hf⟩:=DataW.trod_struct Tryz.underlying80 h
 have hlen':xs.length=4:=hlen
 clear hlen
 obtain ⟨y0,y1,y2,y3,rfl⟩:∃ y0 y1 y2 y3,xs=[y0,y1,y2,y3]:=by
  match xs,hlen' with
  | [y0,y1,y2,y3],_=>exact ⟨y0,y1,y2,y3,rfl⟩
 simp only [Prod.mk.injEq,List.map_cons,List.map_nil] at hd
 obtain ⟨rfl,_⟩:=hd
 rw [show Tryz.prog.cellsOf 80=4 by kernel_rfl] at hl
 obtain ⟨c0,c1,c2,c3,rfl⟩:∃ c0 c1 c2 c3,x=[c0,c1,c2,c3]:=by
  match x,hl with
  | [c0,c1,c2,c3],_=>exact ⟨c0,c1,c2,c3,rfl⟩
 obtain ⟨n0,rfl,u0⟩:=qI (k:=0) (hf 0 _ rfl) rfl rfl
 obtain ⟨n1,rfl,u1⟩:=qI (k:=1) (hf 1 _ rfl) rfl rfl
 obtain ⟨n2,rfl,u2⟩:=qI (k:=2) (hf 2 _ rfl) rfl rfl
 obtain ⟨n3,rfl,u3⟩:=qI (k:=3) (hf 3 _ rfl) rfl rfl
 have hrb:=reachBytes_lt
 exact ⟨⟨n0,n1,n2,n3⟩,rfl,u3⟩
theorem open_rngs {fuel:Nat} {v:Value} {d:DataW H} {p:List MemPlace} (h:DataW.trod enc Tryz.prog w0 0 (fun _=>true) true fuel 29 [v]=some (d,p)) (hB:∀ n∈d.weights Tryz.prog 29,n≤reachBytes) :
  ∃ l:List Rng,RdL w0 0 v l∧l.length*32≤reachBytes∧∀ q∈l,Sl.I64 q.epoch :=
 open_list (α:=Rng) (B:=32) (fun q=>Sl.I64 q.epoch) Tryz.underlying29 (show Tryz.prog.cellsOf 80=_ by kernel_rfl) (by decide) (by kernel_rfl) (fun n x D Pl hx hw=>open_rng hx hw) h hB
theorem open_spn {fuel:Nat} {x:List Value} {D:DataW H} {Pl:List MemPlace} (h:DataW.trod enc Tryz.prog w0 0 (fun _=>true) true fuel 78 x=some (D,Pl)) (hB:∀ m∈D.weights Tryz.prog 78,m≤reachBytes) :
  ∃ q:Spn,Rep.rd w0 0 q x∧Sl.I64 q.lo∧Sl.I64 q.hi:=by
 obtain ⟨xs,n,_,hd,hl,hlen,hf⟩:=DataW.trod_struct Tryz.underlying78 h
 have hlen':xs.length=2:=hlen
 clear hlen
 obtain ⟨y0,y1,rfl⟩:∃ y0 y1,xs=[y0,y1]:=by
  match xs,hlen' with
  | [y0,y1],_=>exact ⟨y0,y1,rfl⟩
 simp only [Prod.mk.injEq,List.map_cons,List.map_nil] at hd
 obtain ⟨rfl,_⟩:=hd
 rw [show Tryz.prog.cellsOf 78=2 by kernel_rfl] at hl
 obtain ⟨c0,c1,rfl⟩:∃ c0 c1,x=[c0,c1]:=by
  match x,hl with
  | [c0,c1],_=>exact ⟨c0,c1,rfl⟩
 obtain ⟨n0,rfl,u0⟩:=qI (k:=0) (hf 0 _ rfl) rfl rfl
 obtain ⟨n1,rfl,u1⟩:=qI (k:=1) (hf 1 _ rfl) rfl rfl
 have hrb:=reachBytes_lt
 exact ⟨⟨n0,n1⟩,rfl,u0,u1⟩
theorem open_spns {fuel:Nat} {v:Value} {d:DataW H} {p:List MemPlace} (h:DataW.trod enc Tryz.prog w0 0 (fun _=>true) true fuel 30 [v]=some (d,p)) (hB:∀ n∈d.weights Tryz.prog 30,n≤reachBytes) :
  ∃ l:List Spn,RdL w0 0 v l∧l.length*16≤reachBytes∧∀ q∈l,Sl.I64 q.lo∧Sl.I64 q.hi :=
 open_list (α:=Spn) (B:=16) (fun q=>Sl.I64 q.lo∧Sl.I64 q.hi) Tryz.underlying30 (show Tryz.prog.cellsOf 78=_ by kernel_rfl) (by decide) (by kernel_rfl) (fun n x D Pl hx hw=>open_spn hx hw) h hB
theorem open_li {fuel:Nat} {x:List Value} {D:DataW H} {Pl:List MemPlace} (h:DataW.trod enc Tryz.prog w0 0 (fun _=>true) true fuel 61 x=some (D,Pl)) (hB:∀ m∈D.weights Tryz.prog 61,m≤reachBytes):∃ q:List Int,Rep.rd w0 0 q x:=by
 obtain ⟨v,rfl⟩:∃ v,x=[v]:=by
  rcases open_slice Tryz.underlying61 h with ⟨hc,_⟩|⟨a,len,cap,m,n',D,Pl,hc,_⟩
  ·exact ⟨_,hc⟩
  ·exact ⟨_,hc⟩
 obtain ⟨l,r,_⟩:=open_ints h hB
 obtain ⟨a,s,rfl⟩:=r.shape
 exact ⟨l,a,s,rfl,r⟩
theorem open_lis0 {fuel:Nat} {v:Value} {d:DataW H} {p:List MemPlace} (h:DataW.trod enc Tryz.prog w0 0 (fun _=>true) true fuel 28 [v]=some (d,p)) (hB:∀ n∈d.weights Tryz.prog 28,n≤reachBytes) :
  ∃ l:List (List Int),RdL w0 0 v l∧l.length*24≤reachBytes∧∀ q∈l,True :=
 open_list (α:=(List Int)) (B:=24) (fun q=>True) Tryz.underlying28 (show Tryz.prog.cellsOf 61=_ by kernel_rfl) (by decide) (by kernel_rfl) (fun n x D Pl hx hw=>(open_li hx hw).imp fun q h=>⟨h,trivial⟩) h hB
theorem open_lis {fuel:Nat} {v:Value} {d:DataW H} {p:List MemPlace} (h:DataW.trod enc Tryz.prog w0 0 (fun _=>true) true fuel 28 [v]=some (d,p)) (hB:∀ n∈d.weights Tryz.prog 28,n≤reachBytes):∃ l:List (List Int),RdL w0 0 v l∧l.length*24≤reachBytes:=by
 obtain ⟨l,h1,h2,_⟩:=open_lis0 h hB
 exact ⟨l,h1,h2⟩
theorem open_call {fuel:Nat} {x:List Value} {D:DataW H} {Pl:List MemPlace} (h:DataW.trod enc Tryz.prog w0 0 (fun _=>true) true fuel 41 x=some (D,Pl)) (hB:∀ m∈D.weights Tryz.prog 41,m≤reachBytes) :
  ∃ (q:Cal) (d:List Bt) (a:Option Addr) (c:Nat),x=xW q (.slice a d.length c)∧RdL w0 0 (.slice a d.length c) d∧qH q:=by
 obtain ⟨xs,n,_,hd,hl,hlen,hf⟩:=DataW.trod_struct Tryz.underlying41 h
 have hlen':xs.length=13:=hlen
 clear hlen
 obtain ⟨y0,y1,y2,y3,y4,y5,y6,y7,y8,y9,y10,y11,y12,rfl⟩:∃ y0 y1 y2 y3 y4 y5 y6 y7 y8 y9 y10 y11 y12,xs=[y0,y1,y2,y3,y4,y5,y6,y7,y8,y9,y10,y11,y12]:=by
  match xs,hlen' with
  | [y0,y1,y2,y3,y4,y5,y6,y7,y8,y9,y10,y11,y12],_=>exact ⟨y0,y1,y2,y3,y4,y5,y6,y7,y8,y9,y10,y11,y12,rfl⟩
 simp only [Prod.mk.injEq,List.map_cons,List.map_nil] at hd
 obtain ⟨rfl,_⟩:=hd
 rw [show Tryz.prog.cellsOf 41=13 by kernel_rfl] at hl
 obtain ⟨c0,c1,c2,c3,c4,c5,c6,c7,c8,c9,c10,c11,c12,rfl⟩:∃ c0 c1 c2 c3 c4 c5 c6 c7 c8 c9 c10 c11 c12,x=[c0,c1,c2,c3,c4,c5,c6,c7,c8,c9,c10,c11,c12]:=by
  match x,hl with
  | [c0,c1,c2,c3,c4,c5,c6,c7,c8,c9,c10,c11,c12],_=>exact ⟨c0,c1,c2,c3,c4,c5,c6,c7,c8,c9,c10,c11,c12,rfl⟩
 obtain ⟨n0,rfl,u0⟩:=qI (k:=0) (hf 0 _ rfl) rfl rfl
 obtain ⟨n1,rfl,u1⟩:=qI (k:=1) (hf 1 _ rfl) rfl rfl
 obtain ⟨n2,rfl,u2⟩:=qI (k:=2) (hf 2 _ rfl) rfl rfl
 obtain ⟨n3,rfl,u3⟩:=qI (k:=3) (hf 3 _ rfl) rfl rfl
 obtain ⟨n4,rfl,u4⟩:=qI (k:=4) (hf 4 _ rfl) rfl rfl
 obtain ⟨n5,rfl,u5⟩:=qI (k:=5) (hf 5 _ rfl) rfl rfl
 obtain ⟨n6,rfl,u6⟩:=qI (k:=6) (hf 6 _ rfl) rfl rfl
 obtain ⟨n7,rfl,u7⟩:=qI (k:=7) (hf 7 _ rfl) rfl rfl
 obtain ⟨n8,rfl,u8⟩:=qI (k:=8) (hf 8 _ rfl) rfl rfl
 obtain ⟨n9,rfl,u9⟩:=qI (k:=9) (hf 9 _ rfl) rfl rfl
 obtain ⟨n10,rfl,u10⟩:=qI (k:=10) (hf 10 _ rfl) rfl rfl
 obtain ⟨n11,rfl,u11⟩:=qI (k:=11) (hf 11 _ rfl) rfl rfl
 have h12:DataW.trod enc Tryz.prog w0 0 (fun _=>true) true n 35 (([.int .i64 n0,.int .i64 n1,.int .i64 n2,.int .i64 n3,.int .i64 n4,.int .i64 n5,.int .i64 n6,.int .i64 n7,.int .i64 n8,.int .i64 n9,.int .i64 n10,.int .i64 n11,c12].drop 12).take (Tryz.prog.cellsOf 35))=some y12:=hf 12 _ rfl
 rw [show Tryz.prog.cellsOf 35=1 by kernel_rfl] at h12
 obtain ⟨l12,r12,z12⟩:=open_bytes (d:=y12.1) (p:=y12.2) h12 (fun m hm=>hB m (by
  simp only [DataW.weights,Tryz.underlying41]
  exact DataW.weights_mem_each (j:=12) (t:=35) M M m hm))
 obtain ⟨a12,s12,rfl⟩:=r12.shape
 have hrb:=reachBytes_lt
 exact ⟨⟨n0,n1,n2,n3,n4,n5,n6,n7,n8,n9,n10,n11⟩,l12,a12,s12,rfl,r12,⟨u1,u3,u5,u6,u7,u8,u10,u11⟩⟩
theorem open_pkt {fuel:Nat} {x:List Value} {D:DataW H} {Pl:List MemPlace} (h:DataW.trod enc Tryz.prog w0 0 (fun _=>true) true fuel 52 x=some (D,Pl)) (hB:∀ m∈D.weights Tryz.prog 52,m≤reachBytes) :
  ∃ (q:Sl.Pkt) (a:Option Addr) (c:Nat),x=[.int .i64 q.src,.int .i64 q.dst,.slice a q.bytes.length c]∧RdL w0 0 (.slice a q.bytes.length c) q.bytes∧q.bytes.length≤c:=by
 obtain ⟨xs,n,_,hd,hl,hlen,hf⟩:=DataW.trod_struct Tryz.underlying52 h
 have hlen':xs.length=3:=hlen
 clear hlen
 obtain ⟨y0,y1,y2,rfl⟩:∃ y0 y1 y2,xs=[y0,y1,y2]:=by
  match xs,hlen' with
  | [y0,y1,y2],_=>exact ⟨y0,y1,y2,rfl⟩
 simp only [Prod.mk.injEq,List.map_cons,List.map_nil] at hd
 obtain ⟨rfl,_⟩:=hd
 rw [show Tryz.prog.cellsOf 52=3 by kernel_rfl] at hl
 obtain ⟨c0,c1,c2,rfl⟩:∃ c0 c1 c2,x=[c0,c1,c2]:=by
  match x,hl with
  | [c0,c1,c2],_=>exact ⟨c0,c1,c2,rfl⟩
 obtain ⟨n0,rfl,u0⟩:=qI (k:=0) (hf 0 _ rfl) rfl rfl
 obtain ⟨n1,rfl,u1⟩:=qI (k:=1) (hf 1 _ rfl) rfl rfl
 have h2:DataW.trod enc Tryz.prog w0 0 (fun _=>true) true n 35 (([.int .i64 n0,.int .i64 n1,c2].drop 2).take (Tryz.prog.cellsOf 35))=some y2:=hf 2 _ rfl
 rw [show Tryz.prog.cellsOf 35=1 by kernel_rfl] at h2
 obtain ⟨l2,r2,z2⟩:=open_bytes (d:=y2.1) (p:=y2.2) h2 (fun m hm=>hB m (by
  simp only [DataW.weights,Tryz.underlying52]
  exact DataW.weights_mem_each (j:=2) (t:=35) M M m hm))
 obtain ⟨a2,s2,rfl⟩:=r2.shape
 have hrb:=reachBytes_lt
 exact ⟨⟨n0,n1,l2⟩,a2,s2,rfl,r2,open_cap (d:=y2.1) (p:=y2.2) Tryz.underlying35 h2⟩
theorem open_msg {fuel:Nat} {x:List Value} {D:DataW H} {Pl:List MemPlace} (h:DataW.trod enc Tryz.prog w0 0 (fun _=>true) true fuel 55 x=some (D,Pl)) (hB:∀ m∈D.weights Tryz.prog 55,m≤reachBytes) :
  ∃ (q:Msg) (a:Option Addr) (c:Nat) (a2:Option Addr) (c2:Nat),x=xI q (.slice a q.entries.length c) (.slice a2 q.data.length c2)∧RdL w0 0 (.slice a q.entries.length c) q.entries∧RdL w0 0 (.slice a2 q.data.length c2) q.data∧q.entries.length≤10000000000000∧MsgI q:=by
 obtain ⟨xs,n,_,hd,hl,hlen,hf⟩:=DataW.trod_struct Tryz.underlying55 h
 have hlen':xs.length=17:=hlen
 clear hlen
 obtain ⟨y0,y1,y2,y3,y4,y5,y6,y7,y8,y9,y10,y11,y12,y13,y14,y15,y16,rfl⟩:∃ y0 y1 y2 y3 y4 y5 y6 y7 y8 y9 y10 y11 y12 y13 y14 y15 y16,xs=[y0,y1,y2,y3,y4,y5,y6,y7,y8,y9,y10,y11,y12,y13,y14,y15,y16]:=by
  match xs,hlen' with
  | [y0,y1,y2,y3,y4,y5,y6,y7,y8,y9,y10,y11,y12,y13,y14,y15,y16],_=>exact ⟨y0,y1,y2,y3,y4,y5,y6,y7,y8,y9,y10,y11,y12,y13,y14,y15,y16,rfl⟩
 simp only [Prod.mk.injEq,List.map_cons,List.map_nil] at hd
 obtain ⟨rfl,_⟩:=hd
 rw [show Tryz.prog.cellsOf 55=17 by kernel_rfl] at hl
 obtain ⟨c0,c1,c2,c3,c4,c5,c6,c7,c8,c9,c10,c11,c12,c13,c14,c15,c16,rfl⟩:∃ c0 c1 c2 c3 c4 c5 c6 c7 c8 c9 c10 c11 c12 c13 c14 c15 c16,x=[c0,c1,c2,c3,c4,c5,c6,c7,c8,c9,c10,c11,c12,c13,c14,c15,c16]:=by
  match x,hl with
  | [c0,c1,c2,c3,c4,c5,c6,c7,c8,c9,c10,c11,c12,c13,c14,c15,c16],_=>exact ⟨c0,c1,c2,c3,c4,c5,c6,c7,c8,c9,c10,c11,c12,c13,c14,c15,c16,rfl⟩
 obtain ⟨n0,rfl,u0⟩:=qI (k:=0) (hf 0 _ rfl) rfl rfl
 obtain ⟨n1,rfl,u1⟩:=qI (k:=1) (hf 1 _ rfl) rfl rfl
 obtain ⟨n2,rfl,u2⟩:=qI (k:=2) (hf 2 _ rfl) rfl rfl
 obtain ⟨n3,rfl,u3⟩:=qI (k:=3) (hf 3 _ rfl) rfl rfl
 obtain ⟨n4,rfl,u4⟩:=qI (k:=4) (hf 4 _ rfl) rfl rfl
 obtain ⟨n5,rfl,u5⟩:=qI (k:=5) (hf 5 _ rfl) rfl rfl
 obtain ⟨n6,rfl,u6⟩:=qI (k:=6) (hf 6 _ rfl) rfl rfl
 obtain ⟨n7,rfl,u7⟩:=qI (k:=7) (hf 7 _ rfl) rfl rfl
 obtain ⟨n8,rfl,u8⟩:=qI (k:=8) (hf 8 _ rfl) rfl rfl
 obtain ⟨n9,rfl,u9⟩:=qI (k:=9) (hf 9 _ rfl) rfl rfl
 obtain ⟨n10,rfl,u10⟩:=qI (k:=10) (hf 10 _ rfl) rfl rfl
 obtain ⟨n11,rfl,u11⟩:=qI (k:=11) (hf 11 _ rfl) rfl rfl
 obtain ⟨n12,rfl,u12⟩:=qI (k:=12) (hf 12 _ rfl) rfl rfl
 obtain ⟨n13,rfl,u13⟩:=qI (k:=13) (hf 13 _ rfl) rfl rfl
 have h14:DataW.trod enc Tryz.prog w0 0 (fun _=>true) true n 4 (([.int .i64 n0,.int .i64 n1,.int .i64 n2,.int .i64 n3,.int .i64 n4,.int .i64 n5,.int .i64 n6,.int .i64 n7,.int .i64 n8,.int .i64 n9,.int .i64 n10,.int .i64 n11,.int .i64 n12,.int .i64 n13,c14,c15,c16].drop 14).take (Tryz.prog.cellsOf 4))=some y14:=hf 14 _ rfl
 rw [show Tryz.prog.cellsOf 4=1 by kernel_rfl] at h14
 obtain ⟨b14,e14,_⟩:=DataW.trod_bool Tryz.underlying4 h14
 simp only [List.drop_zero,List.drop_succ_cons,List.take_succ_cons,List.take_zero,List.cons.injEq,and_true] at e14
 have h15:DataW.trod enc Tryz.prog w0 0 (fun _=>true) true n 53 (([.int .i64 n0,.int .i64 n1,.int .i64 n2,.int .i64 n3,.int .i64 n4,.int .i64 n5,.int .i64 n6,.int .i64 n7,.int .i64 n8,.int .i64 n9,.int .i64 n10,.int .i64 n11,.int .i64 n12,.int .i64 n13,c14,c15,c16].drop 15).take (Tryz.prog.cellsOf 53))=some y15:=hf 15 _ rfl
 rw [show Tryz.prog.cellsOf 53=1 by kernel_rfl] at h15
 obtain ⟨l15,r15,z15,q15⟩:=open_ents (d:=y15.1) (p:=y15.2) h15 (fun m hm=>hB m (by
  simp only [DataW.weights,Tryz.underlying55]
  exact DataW.weights_mem_each (j:=15) (t:=53) M M m hm))
 have h16:DataW.trod enc Tryz.prog w0 0 (fun _=>true) true n 35 (([.int .i64 n0,.int .i64 n1,.int .i64 n2,.int .i64 n3,.int .i64 n4,.int .i64 n5,.int .i64 n6,.int .i64 n7,.int .i64 n8,.int .i64 n9,.int .i64 n10,.int .i64 n11,.int .i64 n12,.int .i64 n13,c14,c15,c16].drop 16).take (Tryz.prog.cellsOf 35))=some y16:=hf 16 _ rfl
 rw [show Tryz.prog.cellsOf 35=1 by kernel_rfl] at h16
 obtain ⟨l16,r16,z16⟩:=open_bytes (d:=y16.1) (p:=y16.2) h16 (fun m hm=>hB m (by
  simp only [DataW.weights,Tryz.underlying55]
  exact DataW.weights_mem_each (j:=16) (t:=35) M M m hm))
 subst e14
 obtain ⟨a15,s15,rfl⟩:=r15.shape
 obtain ⟨a16,s16,rfl⟩:=r16.shape
 have hrb:=reachBytes_lt
 exact ⟨⟨n0,n1,n2,n3,n4,n5,n6,n7,n8,n9,n10,n11,n12,n13,b14,l15,l16⟩,a15,s15,a16,s16,rfl,r15,r16,(by show l15.length≤_; omega),⟨u0,u1,u2,u5,u9,u10,u11,u12⟩⟩
theorem open_lop {fuel:Nat} {x:List Value} {D:DataW H} {Pl:List MemPlace} (h:DataW.trod enc Tryz.prog w0 0 (fun _=>true) true fuel 57 x=some (D,Pl)) (hB:∀ m∈D.weights Tryz.prog 57,m≤reachBytes) :
  ∃ q:Lop,Rep.rd w0 0 q x∧LopIn q:=by
 obtain ⟨xs,n,_,hd,hl,hlen,hf⟩:=DataW.trod_struct Tryz.underlying57 h
 have hlen':xs.length=4:=hlen
 clear hlen
 obtain ⟨y0,y1,y2,y3,rfl⟩:∃ y0 y1 y2 y3,xs=[y0,y1,y2,y3]:=by
  match xs,hlen' with
  | [y0,y1,y2,y3],_=>exact ⟨y0,y1,y2,y3,rfl⟩
 simp only [Prod.mk.injEq,List.map_cons,List.map_nil] at hd
 obtain ⟨rfl,_⟩:=hd
 rw [show Tryz.prog.cellsOf 57=34 by kernel_rfl] at hl
 obtain ⟨c0,c1,c2,c3,c4,c5,c6,c7,c8,c9,c10,c11,c12,c13,c14,c15,c16,c17,c18,c19,c20,c21,c22,c23,c24,c25,c26,c27,c28,c29,c30,c31,c32,c33,rfl⟩:∃ c0 c1 c2 c3 c4 c5 c6 c7 c8 c9 c10 c11 c12 c13 c14 c15 c16 c17 c18 c19 c20 c21 c22 c23 c24 c25 c26 c27 c28 c29 c30 c31 c32 c33,x=(c0::c1::c2::c3::c4::c5::c6::c7::c8::c9::c10::c11::c12::c13::c14::c15::c16::c17::c18::c19::c20::c21::c22::c23::c24::c25::c26::c27::c28::c29::c30::c31::c32::c33::[]):=by
  match x,hl with
  | (c0::c1::c2::c3::c4::c5::c6::c7::c8::c9::c10::c11::c12::c13::c14::c15::c16::c17::c18::c19::c20::c21::c22::c23::c24::c25::c26::c27::c28::c29::c30::c31::c32::c33::[]),_=>exact ⟨c0,c1,c2,c3,c4,c5,c6,c7,c8,c9,c10,c11,c12,c13,c14,c15,c16,c17,c18,c19,c20,c21,c22,c23,c24,c25,c26,c27,c28,c29,c30,c31,c32,c33,rfl⟩
 obtain ⟨n0,rfl,u0⟩:=qI (k:=0) (hf 0 _ rfl) rfl rfl
 have h1:DataW.trod enc Tryz.prog w0 0 (fun _=>true) true n 41 (((.int .i64 n0::c1::c2::c3::c4::c5::c6::c7::c8::c9::c10::c11::c12::c13::c14::c15::c16::c17::c18::c19::c20::c21::c22::c23::c24::c25::c26::c27::c28::c29::c30::c31::c32::c33::[]).drop 1).take (Tryz.prog.cellsOf 41))=some y1:=hf 1 _ rfl
 rw [show Tryz.prog.cellsOf 41=13 by kernel_rfl] at h1
 simp only [List.drop_zero,List.drop_succ_cons,List.take_succ_cons,List.take_zero,List.cons.injEq,and_true] at h1
 obtain ⟨q1,d1,a1,s1,e1,r1,u1⟩:=open_call (D:=y1.1) (Pl:=y1.2) h1 (fun m hm=>hB m (by
  simp only [DataW.weights,Tryz.underlying57]
  exact DataW.weights_mem_each (j:=1) (t:=41) M M m hm))
 simp only [xW,List.cons.injEq,and_true] at e1
 have h2:DataW.trod enc Tryz.prog w0 0 (fun _=>true) true n 52 (((.int .i64 n0::c1::c2::c3::c4::c5::c6::c7::c8::c9::c10::c11::c12::c13::c14::c15::c16::c17::c18::c19::c20::c21::c22::c23::c24::c25::c26::c27::c28::c29::c30::c31::c32::c33::[]).drop 14).take (Tryz.prog.cellsOf 52))=some y2:=hf 2 _ rfl
 rw [show Tryz.prog.cellsOf 52=3 by kernel_rfl] at h2
 simp only [List.drop_zero,List.drop_succ_cons,List.take_succ_cons,List.take_zero,List.cons.injEq,and_true] at h2
 obtain ⟨q2,a2,s2,e2,r2,u2⟩:=open_pkt (D:=y2.1) (Pl:=y2.2) h2 (fun m hm=>hB m (by
  simp only [DataW.weights,Tryz.underlying57]
  exact DataW.weights_mem_each (j:=2) (t:=52) M M m hm))
 simp only [List.cons.injEq,and_true] at e2
 have h3:DataW.trod enc Tryz.prog w0 0 (fun _=>true) true n 55 (((.int .i64 n0::c1::c2::c3::c4::c5::c6::c7::c8::c9::c10::c11::c12::c13::c14::c15::c16::c17::c18::c19::c20::c21::c22::c23::c24::c25::c26::c27::c28::c29::c30::c31::c32::c33::[]).drop 17).take (Tryz.prog.cellsOf 55))=some y3:=hf 3 _ rfl
 rw [show Tryz.prog.cellsOf 55=17 by kernel_rfl] at h3
 simp only [List.drop_zero,List.drop_succ_cons,List.take_succ_cons,List.take_zero,List.cons.injEq,and_true] at h3
 obtain ⟨q3,a3,s3,f3,g3,e3,r3,v3,u3⟩:=open_msg (D:=y3.1) (Pl:=y3.2) h3 (fun m hm=>hB m (by
  simp only [DataW.weights,Tryz.underlying57]
  exact DataW.weights_mem_each (j:=3) (t:=55) M M m hm))
 simp only [xI,List.cons.injEq,and_true] at e3
 obtain ⟨rfl,rfl,rfl,rfl,rfl,rfl,rfl,rfl,rfl,rfl,rfl,rfl,rfl⟩:=e1
 obtain ⟨rfl,rfl,rfl⟩:=e2
 obtain ⟨rfl,rfl,rfl,rfl,rfl,rfl,rfl,rfl,rfl,rfl,rfl,rfl,rfl,rfl,rfl,rfl,rfl⟩:=e3
 have hrb:=reachBytes_lt
 exact ⟨⟨n0,q1,d1,q2,q3⟩,⟨a1,s1,a2,s2,a3,s3,f3,g3,rfl,r1,r2,r3,v3,u2⟩,⟨⟨u3.1⟩,u1,u3.2⟩⟩
theorem open_lops {fuel:Nat} {v:Value} {d:DataW H} {p:List MemPlace} (h:DataW.trod enc Tryz.prog w0 0 (fun _=>true) true fuel 47 [v]=some (d,p)) (hB:∀ n∈d.weights Tryz.prog 47,n≤reachBytes) :
  ∃ l:List Lop,RdL w0 0 v l∧l.length*336≤reachBytes∧∀ q∈l,LopIn q :=
 open_list (α:=Lop) (B:=336) (fun q=>LopIn q) Tryz.underlying47 (show Tryz.prog.cellsOf 57=_ by kernel_rfl) (by decide) (by kernel_rfl) (fun n x D Pl hx hw=>open_lop hx hw) h hB
theorem open_conf {fuel:Nat} {x:List Value} {D:DataW H} {Pl:List MemPlace} (h:DataW.trod enc Tryz.prog w0 0 (fun _=>true) true fuel 32 x=some (D,Pl)) (hB:∀ m∈D.weights Tryz.prog 32,m≤reachBytes) :
  ∃ (k:Cfg) (am:Option Addr) (cm:Nat) (ar:Option Addr) (cr:Nat) (ax:Option Addr) (cs:Nat),x=dH k (.slice am k.mem.length cm) (.slice ar k.rngs.length cr) (.slice ax k.sets.length cs)∧RdL w0 0 (.slice am k.mem.length cm) k.mem∧RdL w0 0 (.slice ar k.rngs.length cr) k.rngs∧RdL w0 0 (.slice ax k.sets.length cs) k.sets∧k.mem.length≤10000000000000∧(∀ r∈k.rngs,Sl.I64 r.epoch)∧∀ s∈k.sets,Sl.I64 s.lo∧Sl.I64 s.hi:=by
 obtain ⟨xs,n,_,hd,hl,hlen,hf⟩:=DataW.trod_struct Tryz.underlying32 h
 have hlen':xs.length=6:=hlen
 clear hlen
 obtain ⟨y0,y1,y2,y3,y4,y5,rfl⟩:∃ y0 y1 y2 y3 y4 y5,xs=[y0,y1,y2,y3,y4,y5]:=by
  match xs,hlen' with
  | [y0,y1,y2,y3,y4,y5],_=>exact ⟨y0,y1,y2,y3,y4,y5,rfl⟩
 simp only [Prod.mk.injEq,List.map_cons,List.map_nil] at hd
 obtain ⟨rfl,_⟩:=hd
 rw [show Tryz.prog.cellsOf 32=6 by kernel_rfl] at hl
 obtain ⟨c0,c1,c2,c3,c4,c5,rfl⟩:∃ c0 c1 c2 c3 c4 c5,x=[c0,c1,c2,c3,c4,c5]:=by
  match x,hl with
  | [c0,c1,c2,c3,c4,c5],_=>exact ⟨c0,c1,c2,c3,c4,c5,rfl⟩
 obtain ⟨n0,rfl,u0⟩:=qI (k:=0) (hf 0 _ rfl) rfl rfl
 obtain ⟨n1,rfl,u1⟩:=qI (k:=1) (hf 1 _ rfl) rfl rfl
 obtain ⟨n2,rfl,u2⟩:=qI (k:=2) (hf 2 _ rfl) rfl rfl
 have h3:DataW.trod enc Tryz.prog w0 0 (fun _=>true) true n 28 (([.int .i64 n0,.int .i64 n1,.int .i64 n2,c3,c4,c5].drop 3).take (Tryz.prog.cellsOf 28))=some y3:=hf 3 _ rfl
 rw [show Tryz.prog.cellsOf 28=1 by kernel_rfl] at h3
 obtain ⟨l3,r3,z3⟩:=open_lis (d:=y3.1) (p:=y3.2) h3 (fun m hm=>hB m (by
  simp only [DataW.weights,Tryz.underlying32]
  exact DataW.weights_mem_each (j:=3) (t:=28) M M m hm))
 have h4:DataW.trod enc Tryz.prog w0 0 (fun _=>true) true n 29 (([.int .i64 n0,.int .i64 n1,.int .i64 n2,c3,c4,c5].drop 4).take (Tryz.prog.cellsOf 29))=some y4:=hf 4 _ rfl
 rw [show Tryz.prog.cellsOf 29=1 by kernel_rfl] at h4
 obtain ⟨l4,r4,z4,q4⟩:=open_rngs (d:=y4.1) (p:=y4.2) h4 (fun m hm=>hB m (by
  simp only [DataW.weights,Tryz.underlying32]
  exact DataW.weights_mem_each (j:=4) (t:=29) M M m hm))
 have h5:DataW.trod enc Tryz.prog w0 0 (fun _=>true) true n 30 (([.int .i64 n0,.int .i64 n1,.int .i64 n2,c3,c4,c5].drop 5).take (Tryz.prog.cellsOf 30))=some y5:=hf 5 _ rfl
 rw [show Tryz.prog.cellsOf 30=1 by kernel_rfl] at h5
 obtain ⟨l5,r5,z5,q5⟩:=open_spns (d:=y5.1) (p:=y5.2) h5 (fun m hm=>hB m (by
  simp only [DataW.weights,Tryz.underlying32]
  exact DataW.weights_mem_each (j:=5) (t:=30) M M m hm))
 obtain ⟨a3,s3,rfl⟩:=r3.shape
 obtain ⟨a4,s4,rfl⟩:=r4.shape
 obtain ⟨a5,s5,rfl⟩:=r5.shape
 have hrb:=reachBytes_lt
 exact ⟨⟨n0,n1,n2,l3,l4,l5⟩,a3,s3,a4,s4,a5,s5,rfl,r3,r4,r5,by show l3.length≤_; omega,q4,q5⟩
end
end Go.Proofs.YtfahijncpmlhjaaGreat.clIn
namespace Go.Proofs.YtfahijncpmlhjaaGreat
open Go Go.RowKit
namespace Sl
theorem jW {v:Int} (h0:-9223372036854775808≤v) (h1:v≤9223372036854775807) (l:List Bt):xQ ⟨be8 v++l,false⟩=v∧yR ⟨be8 v++l,false⟩=⟨l,false⟩:=by
 have hl:(be8 v++l).length=8+l.length:=by rw [List.length_append,yX]
 have hok:uY ⟨be8 v++l,false⟩ 8=true:=by unfold uY; simp [hl]; omega
 have h8:(8:Int).toNat=(be8 v).length:=by rw [yX]; rfl
 refine ⟨?_,?_⟩
 ·unfold xQ vT
  rw [if_pos hok,if_pos hok,h8]
  simp only [List.take_left]
  exact dec8_be8 v h0 h1
 ·unfold yR takeS
  rw [if_pos hok,h8]
  simp only [List.drop_left]
theorem rd_blob {d:List Bt} (hd:d.length≤1000000000000) (l:List Bt):dP ⟨dQ d++l,false⟩=d∧blobS ⟨dQ d++l,false⟩=⟨l,false⟩:=by
 have h1:=jW (v:=(d.length:Int)) (by omega) (by omega) (d++l)
 have e:dQ d++l=be8 d.length++(d++l):=by unfold dQ; rw [List.append_assoc]
 have hok:uY ⟨d++l,false⟩ (d.length:Int)=true:=by unfold uY; simp; omega
 unfold dP blobS
 rw [e,h1.1,h1.2]
 unfold vT takeS
 rw [if_pos hok,if_pos hok]
 simp only [Int.toNat_natCast,List.take_left,List.drop_left]
 exact ⟨trivial,trivial⟩
theorem rd_many {α:Type} {f:RS→α × RS} {enc:α→List Bt} {P:α→Prop} (hf:∀ (x:α) (l:List Bt),P x→f ⟨enc x++l,false⟩=(x,⟨l,false⟩)) :
  ∀ (n:Nat) (xs:List α) (l:List Bt),xs.length=n→(∀ x∈xs,P x)→wD f n ⟨(xs.map enc).flatten++l,false⟩=(xs,⟨l,false⟩)
 | 0,[],l,_,_=>rfl
 | n+1,xs,l,hn,h=>by
  have hne:xs≠[]:=fun e=>by rw [e] at hn; cases hn
  obtain ⟨ys,x,rfl⟩:∃ ys x,xs=ys++[x]:=⟨_,_,(List.dropLast_concat_getLast hne).symm⟩
  rw [List.length_append,List.length_singleton] at hn
  have hi:=rd_many hf n ys (enc x++l) (by omega) fun y hy=>h y (by simp [hy])
  have e:((ys++[x]).map enc).flatten++l=(ys.map enc).flatten++(enc x++l):=by simp
  rw [e]
  show ((wD f n _).1++[(f (wD f n _).2).1],(f (wD f n _).2).2)=_
  rw [hi]
  simp only
  rw [hf x l (h x (by simp))]
theorem de4_be4 {n:Nat} (h:n<4294967296) (l:List Bt):de4 (be4 n++l)=n:=by
 unfold de4 be4 bt
 simp
 omega
theorem getFr_head {p:List Bt} (h:p.length≤65536):wV (vC p++p)=(p,8+(p.length:Int),0):=by
 have hl:(vC p++p).length=8+p.length:=by rw [List.length_append]; rfl
 have hd:de4 (vC p++p)=p.length:=by unfold vC; rw [List.append_assoc]; exact de4_be4 (by omega) _
 have h8:(vC p).length=8:=rfl
 unfold wV
 rw [hl,hd,if_neg (by omega),if_neg (by omega),if_neg (by omega)]
 have e1:(vC p++p).drop 8=p:=by rw [← h8,List.drop_left]
 have e2:(vC p++p).take 8=vC p:=by rw [← h8,List.take_left]
 rw [e1,e2,List.take_length,if_pos M]
theorem check_of {m:Msg} (h:jA m=0):gK m=false∧qB m=true∧fitsF m=true:=by
 unfold jA at h
 split at h
 ·omega
 split at h
 ·omega
 split at h
 ·omega
 split at h
 ·omega
 rename_i h2 h3 h4
 exact ⟨by simpa using h2,by simpa using h3,by simpa using h4⟩
theorem readM_6 {m:Msg} (hk:m.kind=6) (hc:jA m=0):bodyM ⟨dF m,false⟩=(m,0):=by
 obtain ⟨h1,h2,h3⟩:=check_of hc
 obtain ⟨kind,src,dst,group,term,index,prev,commit,round,txn,part,ballot,value,seq,ok,entries,data⟩:=m
 simp only at hk; subst hk
 have hfl:jB 6=[103,115,100]:=rfl
 unfold gK at h1
 simp [hfl,clrs,clr,getL,wN] at h1
 obtain ⟨⟨t1,t2,t3,t4,t5,t6,t7,t8,t9⟩,t10,t11⟩:=h1
 subst t1 t2 t3 t4 t5 t6 t7 t8 t9 t10 t11
 unfold qB at h2
 simp [hfl,inB,fineL,getL,loB,hiB] at h2
 unfold fitsF at h3
 simp at h3
 have e:dF ⟨6,src,dst,group,0,0,0,0,0,0,0,0,0,seq,false,[],data⟩=be8 6++(be8 src++(be8 dst++(be8 group++(be8 seq++(dQ data++[]))))):=by
  simp [dF,preF,outL,hfl,encF,getL]
 have r1:=jW (v:=6) (by omega) (by omega) (be8 src++(be8 dst++(be8 group++(be8 seq++(dQ data++[])))))
 have r2:=jW (v:=src) (by omega) (by omega) (be8 dst++(be8 group++(be8 seq++(dQ data++[]))))
 have r3:=jW (v:=dst) (by omega) (by omega) (be8 group++(be8 seq++(dQ data++[])))
 have r4:=jW (v:=group) (by omega) (by omega) (be8 seq++(dQ data++[]))
 have r5:=jW (v:=seq) (by omega) (by omega) (dQ data++[])
 have r6:=rd_blob (d:=data) (by omega) []
 have hm0:m0F ⟨dF ⟨6,src,dst,group,0,0,0,0,0,0,0,0,0,seq,false,[],data⟩,false⟩=⟨6,src,dst,0,0,0,0,0,0,0,0,0,0,0,false,[],[]⟩:=by
  unfold m0F; rw [e,r1.1,r1.2,r2.1,r2.2,r3.1]
 unfold bodyM
 rw [hm0,e,r1.2,r2.2,r3.2,if_neg (by simp),if_neg (by rw [hfl]; simp),hfl]
 have hr:vN [103,115,100] (⟨6,src,dst,0,0,0,0,0,0,0,0,0,0,0,false,[],[]⟩,⟨be8 group++(be8 seq++(dQ data++[])),false⟩)=some (⟨6,src,dst,group,0,0,0,0,0,0,0,0,0,seq,false,[],data⟩,⟨[],false⟩):=by
  simp only [List.append_nil] at r4 r5 r6 ⊢
  simp [vN,qC,r4,r5,r6]
 rw [hr]
 simp only
 rw [if_neg (by simp [endV]),hc,if_neg (by simp)]
theorem readM_8 {m:Msg} (hk:m.kind=8) (hc:jA m=0):bodyM ⟨dF m,false⟩=(m,0):=by
 obtain ⟨h1,h2,h3⟩:=check_of hc
 obtain ⟨kind,src,dst,group,term,index,prev,commit,round,txn,part,ballot,value,seq,ok,entries,data⟩:=m
 simp only at hk; subst hk
 have hfl:jB 8=[120,97,98]:=rfl
 unfold gK at h1
 simp [hfl,clrs,clr,getL,wN] at h1
 obtain ⟨⟨t1,t2,t3,t4,t5,t6,t7,t8⟩,t10,t11,t12⟩:=h1
 subst t1 t2 t3 t4 t5 t6 t7 t8 t10 t11 t12
 unfold qB at h2
 simp [hfl,inB,fineL,getL,loB,hiB] at h2
 have e:dF ⟨8,src,dst,0,0,0,0,0,0,txn,part,ballot,0,0,false,[],[]⟩=be8 8++(be8 src++(be8 dst++(be8 txn++(be8 part++(be8 ballot++[]))))):=by
  simp [dF,preF,outL,hfl,encF,getL]
 have r1:=jW (v:=8) (by omega) (by omega) (be8 src++(be8 dst++(be8 txn++(be8 part++(be8 ballot++[])))))
 have r2:=jW (v:=src) (by omega) (by omega) (be8 dst++(be8 txn++(be8 part++(be8 ballot++[]))))
 have r3:=jW (v:=dst) (by omega) (by omega) (be8 txn++(be8 part++(be8 ballot++[])))
 have r4:=jW (v:=txn) (by omega) (by omega) (be8 part++(be8 ballot++[]))
 have r5:=jW (v:=part) (by omega) (by omega) (be8 ballot++[])
 have r6:=jW (v:=ballot) (by omega) (by omega) []
 have hm0:m0F ⟨dF ⟨8,src,dst,0,0,0,0,0,0,txn,part,ballot,0,0,false,[],[]⟩,false⟩=⟨8,src,dst,0,0,0,0,0,0,0,0,0,0,0,false,[],[]⟩:=by
  unfold m0F; rw [e,r1.1,r1.2,r2.1,r2.2,r3.1]
 unfold bodyM
 rw [hm0,e,r1.2,r2.2,r3.2,if_neg (by simp),if_neg (by rw [hfl]; simp),hfl]
 have hr:vN [120,97,98] (⟨8,src,dst,0,0,0,0,0,0,0,0,0,0,0,false,[],[]⟩,⟨be8 txn++(be8 part++(be8 ballot++[])),false⟩)=some (⟨8,src,dst,0,0,0,0,0,0,txn,part,ballot,0,0,false,[],[]⟩,⟨[],false⟩):=by
  simp only [List.append_nil] at r4 r5 r6 ⊢
  simp [vN,qC,r4,r5,r6]
 rw [hr]
 simp only
 rw [if_neg (by simp [endV]),hc,if_neg (by simp)]
theorem readM_10 {m:Msg} (hk:m.kind=10) (hc:jA m=0):bodyM ⟨dF m,false⟩=(m,0):=by
 obtain ⟨h1,h2,h3⟩:=check_of hc
 obtain ⟨kind,src,dst,group,term,index,prev,commit,round,txn,part,ballot,value,seq,ok,entries,data⟩:=m
 simp only at hk; subst hk
 have hfl:jB 10=[120,97,98,118]:=rfl
 unfold gK at h1
 simp [hfl,clrs,clr,getL,wN] at h1
 obtain ⟨⟨t1,t2,t3,t4,t5,t6,t7⟩,t10,t11,t12⟩:=h1
 subst t1 t2 t3 t4 t5 t6 t7 t10 t11 t12
 unfold qB at h2
 simp [hfl,inB,fineL,getL,loB,hiB] at h2
 have e:dF ⟨10,src,dst,0,0,0,0,0,0,txn,part,ballot,value,0,false,[],[]⟩=be8 10++(be8 src++(be8 dst++(be8 txn++(be8 part++(be8 ballot++(be8 value++[])))))):=by
  simp [dF,preF,outL,hfl,encF,getL]
 have r1:=jW (v:=10) (by omega) (by omega) (be8 src++(be8 dst++(be8 txn++(be8 part++(be8 ballot++(be8 value++[]))))))
 have r2:=jW (v:=src) (by omega) (by omega) (be8 dst++(be8 txn++(be8 part++(be8 ballot++(be8 value++[])))))
 have r3:=jW (v:=dst) (by omega) (by omega) (be8 txn++(be8 part++(be8 ballot++(be8 value++[]))))
 have r4:=jW (v:=txn) (by omega) (by omega) (be8 part++(be8 ballot++(be8 value++[])))
 have r5:=jW (v:=part) (by omega) (by omega) (be8 ballot++(be8 value++[]))
 have r6:=jW (v:=ballot) (by omega) (by omega) (be8 value++[])
 have r7:=jW (v:=value) (by omega) (by omega) []
 have hm0:m0F ⟨dF ⟨10,src,dst,0,0,0,0,0,0,txn,part,ballot,value,0,false,[],[]⟩,false⟩=⟨10,src,dst,0,0,0,0,0,0,0,0,0,0,0,false,[],[]⟩:=by
  unfold m0F; rw [e,r1.1,r1.2,r2.1,r2.2,r3.1]
 unfold bodyM
 rw [hm0,e,r1.2,r2.2,r3.2,if_neg (by simp),if_neg (by rw [hfl]; simp),hfl]
 have hr:vN [120,97,98,118] (⟨10,src,dst,0,0,0,0,0,0,0,0,0,0,0,false,[],[]⟩,⟨be8 txn++(be8 part++(be8 ballot++(be8 value++[]))),false⟩)=some (⟨10,src,dst,0,0,0,0,0,0,txn,part,ballot,value,0,false,[],[]⟩,⟨[],false⟩):=by
  simp only [List.append_nil] at r4 r5 r6 r7 ⊢
  simp [vN,qC,r4,r5,r6,r7]
 rw [hr]
 simp only
 rw [if_neg (by simp [endV]),hc,if_neg (by simp)]
theorem getM_put {m:Msg} (h:jA m=0) (hl:(dF m).length≤65536) (hk:m.kind=6∨m.kind=8∨m.kind=10):kH (vC (dF m)++dF m)=(m,0):=by
 unfold kH
 rw [getFr_head hl]
 have hlen:(vC (dF m)++dF m).length=8+(dF m).length:=by rw [List.length_append]; rfl
 simp only
 rw [if_neg (by simp),hlen,if_neg (by omega)]
 rcases hk with hk|hk|hk
 ·exact readM_6 hk h
 ·exact readM_8 hk h
 ·exact readM_10 hk h
def setO (o:Opn) (i:Nat) (v:Int):Opn :=
 if i=3 then { o with txn:=v } else if i=4 then { o with age:=v } else if i=5 then { o with epoch:=v } else if i=6 then { o with lo:=v } else if i=7 then { o with hi:=v } else if i=8 then { o with block:=v } else if i=9 then { o with snap:=v } else if i=10 then { o with value:=v } else if i=11 then { o with src:=v } else { o with dst:=v }
def stepN (p:Opn × RS) (i:Nat):Opn × RS:=(setO p.1 i (xQ p.2),yR p.2)
def readN (l:List Nat) (p:Opn × RS):Opn × RS:=l.foldl stepN p
def intG (s:RS):Int × RS:=(xQ s,yR s)
def wrG (s:RS):Wr × RS:=(⟨xQ s,dP (yR s)⟩,blobS (yR s))
def wrsOk (s:RS):Bool:=decide (0≤xQ s∧xQ s≤((yR s).left.length:Int) / 8)
def wrsN (s:RS):List Wr × RS:=wD wrG (xQ s).toNat (yR s)
def qY (s:RS):Bool:=wrsOk s&&(decide (xQ s=0)||!(wrsN s).2.bad)
abbrev opN (k c q:Int):Opn:=⟨k,c,q,0,0,0,0,0,0,0,0,0,0,[],[],[],[]⟩
abbrev opH (s:RS):Opn:=opN (xQ s) (xQ (yR s)) (xQ (yR (yR s)))
def tailG (p:Opn × RS):Option (Opn × RS) :=
 if p.1.kind=2 then (if qY (vL (vL p.2))=true then some ({ p.1 with parts:=bI p.2,reads:=bI (vL p.2),writes:=(wrsN (vL (vL p.2))).1 },(wrsN (vL (vL p.2))).2) else none)
 else if p.1.kind=6 then some ({ p.1 with data:=dP p.2 },blobS p.2) else some p
def fieldsG (b:List Bt):Opn × RS:=readN (xP (xQ ⟨b,false⟩)) (opH ⟨b,false⟩,yR (yR (yR ⟨b,false⟩)))
def finO (p:Opn × RS):Opn × Int:=if endV p.2≠0 then (opN 0 0 0,endV p.2) else if jF p.1≠0 then (opN 0 0 0,jF p.1) else (p.1,0)
def getO (b:List Bt):Opn × Int :=
 if ¬ (1≤xQ ⟨b,false⟩∧xQ ⟨b,false⟩≤11) then (opN 0 0 0,4) else match tailG (fieldsG b) with
 | none=>(opN 0 0 0,4)
 | some p=>finO p
theorem rd_nums (o:Opn):∀ (l:List Nat) (o':Opn) (rest:List Bt),(∀ i∈l,-9223372036854775808≤dY o i∧dY o i≤9223372036854775807) →
  readN l (o',⟨gX o l++rest,false⟩)=(l.foldl (fun q i=>setO q i (dY o i)) o',⟨rest,false⟩)
 | [],o',rest,_=>by simp [readN,gX]
 | i::l,o',rest,h=>by
  have e:gX o (i::l)++rest=be8 (dY o i)++(gX o l++rest):=by simp [gX]
  have h1:=h i (by simp)
  have r:=jW h1.1 h1.2 (gX o l++rest)
  have ih:=rd_nums o l (setO o' i (dY o i)) rest fun x hx=>h x (by simp [hx])
  rw [e]
  unfold readN at ih ⊢
  rw [List.foldl_cons,List.foldl_cons]
  have e2:stepN (o',⟨be8 (dY o i)++(gX o l++rest),false⟩) i=(setO o' i (dY o i),⟨gX o l++rest,false⟩):=by
   unfold stepN; rw [r.1,r.2]
  rw [e2]
  exact ih
theorem rd_ints {xs:List Int} (hl:xs.length≤1000000) (hx:∀ x∈xs,-9223372036854775808≤x∧x≤9223372036854775807) (l:List Bt):bI ⟨wO xs++l,false⟩=xs∧vL ⟨wO xs++l,false⟩=⟨l,false⟩:=by
 have e:wO xs++l=be8 xs.length++((xs.map be8).flatten++l):=by unfold wO; rw [List.append_assoc]
 have r:=jW (v:=(xs.length:Int)) (by omega) (by omega) ((xs.map be8).flatten++l)
 have hln:(xs.map be8).flatten.length=8*xs.length:=by
  have:=gM xs
  unfold wO at this
  rw [List.length_append,yX] at this
  omega
 have hok:intsOk ⟨wO xs++l,false⟩=true:=by
  unfold intsOk
  rw [e,r.1,r.2]
  simp only [Bool.not_false,Bool.true_and,decide_eq_true_eq,List.length_append,hln]
  omega
 have hm:=rd_many (f:=intG) (enc:=be8) (P:=fun x=>-9223372036854775808≤x∧x≤9223372036854775807) (fun x l h=>by unfold intG; rw [(jW h.1 h.2 l).1,(jW h.1 h.2 l).2]) xs.length xs l M hx
 have hm2:wD (fun s=>(xQ s,yR s)) xs.length ⟨(xs.map be8).flatten++l,false⟩=(xs,⟨l,false⟩):=hm
 unfold bI vL
 rw [if_pos hok,if_pos hok,e,r.1,r.2,Int.toNat_natCast,hm2]
 exact ⟨rfl,rfl⟩
theorem rd_wrs {xs:List Wr} (hl:xs.length≤1000000) (hx:∀ x∈xs,(-9223372036854775808≤x.block∧x.block≤9223372036854775807)∧x.data.length=4) (l:List Bt) :
  qY ⟨be8 xs.length++((xs.map qR).flatten++l),false⟩=true∧wrsN ⟨be8 xs.length++((xs.map qR).flatten++l),false⟩=(xs,⟨l,false⟩):=by
 have r:=jW (v:=(xs.length:Int)) (by omega) (by omega) ((xs.map qR).flatten++l)
 have hln:=encWr_len xs fun x h=>(hx x h).2
 have hm:=rd_many (f:=wrG) (enc:=qR) (P:=fun x=>(-9223372036854775808≤x.block∧x.block≤9223372036854775807)∧x.data.length=4) (fun x l h=>by
  have e:qR x++l=be8 x.block++(dQ x.data++l):=by unfold qR; rw [List.append_assoc]
  unfold wrG
  rw [e,(jW h.1.1 h.1.2 _).1,(jW h.1.1 h.1.2 _).2,(rd_blob (by omega) l).1,(rd_blob (by omega) l).2]) xs.length xs l M hx
 have hn:wrsN ⟨be8 xs.length++((xs.map qR).flatten++l),false⟩=(xs,⟨l,false⟩):=by
  unfold wrsN
  rw [r.1,r.2,Int.toNat_natCast,hm]
 refine ⟨?_,hn⟩
 unfold qY wrsOk
 rw [hn,r.1,r.2]
 simp only [Bool.not_false,Bool.or_true,Bool.and_true,decide_eq_true_eq,List.length_append,hln]
 omega
theorem checkF_of {o:Opn} (h:jF o=0):(1≤o.kind∧o.kind≤11)∧BareP o∧(o.parts.length≤4∧o.reads.length≤16∧o.writes.length≤8)∧o.data.length≤32768∧(PlacedP o∧InAll o.parts 1 4∧InAll o.reads 0 63∧InAll (o.writes.map Wr.block) 0 63)∧WritesP o:=by
 unfold jF at h
 split at h
 ·omega
 split at h
 ·omega
 split at h
 ·omega
 split at h
 ·omega
 split at h
 ·omega
 split at h
 ·omega
 rename_i h1 h2 h3 h4 h5 h6
 exact ⟨Decidable.not_not.1 h1,Decidable.not_not.1 h2,by omega,by omega,Decidable.not_not.1 h5,Decidable.not_not.1 h6⟩
theorem getO_putO {o:Opn} (h:jF o=0):getO (putO o)=(o,0):=by
 obtain ⟨hk,hb,hn,hd,hp,hw⟩:=checkF_of h
 obtain ⟨hp1,hpa,hpr,hpw⟩:=hp
 obtain ⟨p1,p2,p3,p4,p5⟩:=_root_.id hp1
 have hI:∀ i∈xP o.kind,-9223372036854775808≤dY o i∧dY o i≤9223372036854775807:=by
  intro i hi
  obtain ⟨q1,q2,q3,q4,q5,q6⟩:=p1
  obtain ⟨r1,r2,r3,r4⟩:=p2
  obtain ⟨s1,s2⟩:=p3
  obtain ⟨u1,u2⟩:=p4
  have hcase:o.kind=1∨o.kind=2∨o.kind=3∨o.kind=4∨o.kind=5∨o.kind=6∨o.kind=7∨o.kind=8∨o.kind=9∨o.kind=10∨o.kind=11:=by omega
  rcases hcase with e|e|e|e|e|e|e|e|e|e|e<;>(rw [e] at hi; simp [xP] at hi)
  all_goals (try (rcases hi with rfl|rfl|rfl|rfl|rfl|rfl))<;>(try (rcases hi with rfl|rfl|rfl|rfl))<;>(try (rcases hi with rfl|rfl|rfl))<;>(try (rcases hi with rfl|rfl))<;>(try subst hi)
  all_goals simp only [dY]<;>simp<;>omega
 have e1:putO o=be8 o.kind++(be8 o.client++(be8 o.seq++(gX o (xP o.kind)++gV o))):=by simp [putO,headO]
 have a1:=jW (v:=o.kind) (by omega) (by omega) (be8 o.client++(be8 o.seq++(gX o (xP o.kind)++gV o)))
 have a2:=jW (v:=o.client) (by have:=p1.1; omega) (by have:=p1.1; omega) (be8 o.seq++(gX o (xP o.kind)++gV o))
 have a3:=jW (v:=o.seq) (by have:=p1.2.1; omega) (by have:=p1.2.1; omega) (gX o (xP o.kind)++gV o)
 have hf:fieldsG (putO o)=({ o with parts:=[],reads:=[],writes:=[],data:=[] },⟨gV o,false⟩):=by
  unfold fieldsG opH
  rw [e1,a1.1,a1.2,a2.1,a2.2,a3.1,a3.2,rd_nums o _ _ _ hI]
  congr 1
  obtain ⟨hb1,-,-⟩:=hb
  unfold BareN at hb1
  have hcase:o.kind=1∨o.kind=2∨o.kind=3∨o.kind=4∨o.kind=5∨o.kind=6∨o.kind=7∨o.kind=8∨o.kind=9∨o.kind=10∨o.kind=11:=by omega
  clear hI e1 a1 a2 a3 h hk hn hd hp1 hpa hpr hpw p1 p2 p3 p4 p5 hw
  obtain ⟨kind,client,seq,txn,age,epoch,lo,hi,block,snap,value,src,dst,parts,reads,writes,data⟩:=o
  simp only at hb1 hcase ⊢
  rcases hcase with rfl|rfl|rfl|rfl|rfl|rfl|rfl|rfl|rfl|rfl|rfl<;>(simp [zf,xP] at hb1; simp [xP,setO,dY,hb1])
 unfold getO
 rw [show xQ ⟨putO o,false⟩=o.kind by rw [e1]; exact a1.1,if_neg (by omega),hf]
 obtain ⟨-,hb2,hb3⟩:=hb
 by_cases k2:o.kind=2
 ·have hdat:o.data=[]:=by rcases hb3 with hb3|hb3; exact List.eq_nil_of_length_eq_zero hb3; omega
  have et:gV o=wO o.parts++(wO o.reads++(be8 o.writes.length++((o.writes.map qR).flatten++[]))):=by unfold gV; rw [if_pos k2]; simp
  have b1:=rd_ints (xs:=o.parts) (by omega) (fun x hx=>by have:=hpa x hx; omega) (wO o.reads++(be8 o.writes.length++((o.writes.map qR).flatten++[])))
  have b2:=rd_ints (xs:=o.reads) (by omega) (fun x hx=>by have:=hpr x hx; omega) (be8 o.writes.length++((o.writes.map qR).flatten++[]))
  have b3:=rd_wrs (xs:=o.writes) (by omega) (fun x hx=>⟨by have:=hpw x.block (List.mem_map.2 ⟨x,hx,rfl⟩); omega,hw x hx⟩) []
  have ht:tailG ({ o with parts:=[],reads:=[],writes:=[],data:=[] },⟨gV o,false⟩)=some (o,⟨[],false⟩):=by
   unfold tailG
   rw [if_pos k2]
   simp only
   rw [et,b1.1,b1.2,b2.1,b2.2,if_pos b3.1,b3.2]
   rw [← hdat]
  rw [ht]
  simp only
  unfold finO
  rw [if_neg (by simp [endV]),if_neg (by rw [h]; simp)]
 ·have hnil:o.parts=[]∧o.reads=[]∧o.writes=[]:=by
   rcases hb2 with hb2|hb2
   ·exact ⟨List.eq_nil_of_length_eq_zero (by omega),List.eq_nil_of_length_eq_zero (by omega),List.eq_nil_of_length_eq_zero (by omega)⟩
   ·omega
  by_cases k6:o.kind=6
  ·have et:gV o=dQ o.data++[]:=by unfold gV; rw [if_neg k2,if_pos k6]; simp
   have b1:=rd_blob (d:=o.data) (by omega) []
   have ht:tailG ({ o with parts:=[],reads:=[],writes:=[],data:=[] },⟨gV o,false⟩)=some (o,⟨[],false⟩):=by
    unfold tailG
    rw [if_neg k2,if_pos k6]
    simp only
    rw [et,b1.1,b1.2,← hnil.1,← hnil.2.2]
    obtain ⟨kind,client,seq,txn,age,epoch,lo,hi,block,snap,value,src,dst,parts,reads,writes,data⟩:=o
    simp only at hnil ⊢
    rw [hnil.1,hnil.2.1,hnil.2.2]
   rw [ht]
   simp only
   unfold finO
   rw [if_neg (by simp [endV]),if_neg (by rw [h]; simp)]
  ·have hdat:o.data=[]:=by rcases hb3 with hb3|hb3; exact List.eq_nil_of_length_eq_zero hb3; omega
   have et:gV o=[]:=by unfold gV; rw [if_neg k2,if_neg k6]
   have ht:tailG ({ o with parts:=[],reads:=[],writes:=[],data:=[] },⟨gV o,false⟩)=some (o,⟨[],false⟩):=by
    unfold tailG
    rw [if_neg k2,if_neg k6,et]
    obtain ⟨kind,client,seq,txn,age,epoch,lo,hi,block,snap,value,src,dst,parts,reads,writes,data⟩:=o
    simp only at hnil hdat ⊢
    rw [hnil.1,hnil.2.1,hnil.2.2,hdat]
   rw [ht]
   simp only
   unfold finO
   rw [if_neg (by simp [endV]),if_neg (by rw [h]; simp)]
theorem getM_pkB {m:Msg} (h:jA m=0) (hl:(dF m).length≤65536) (hk:m.kind=6∨m.kind=8∨m.kind=10):kH (pkB m)=(m,0):=getM_put h hl hk
abbrev Sta :=Int→Int × Opn
def kL (b:List Bt):Int × Int × Opn × Bool :=
 if (kH b).2≠0∨(kH b).1.kind≠6 then (0,0,opN 0 0 0,false) else
 ((kH b).1.group,(kH b).1.seq,(getO (kH b).1.data).1,decide ((getO (kH b).1.data).2=0∧(getO (kH b).1.data).1.seq=(kH b).1.seq))
def setS (s:Sta) (g n:Int) (o:Opn):Sta:=fun x=>if x=g then (n,o) else s x
def chkF (addr nodes id:Int) (s:Sta) (p:Pkt):Option Sta :=
 if (kH p.bytes).2≠0∨p.src≠addr∨(kH p.bytes).1.src≠p.src∨(kH p.bytes).1.dst≠p.dst∨p.dst<1∨nodes<p.dst then none else
 if (kL p.bytes).2.2.2=false then (if (kH p.bytes).1.kind=6 then none else some s) else
 if (kL p.bytes).2.2.1.client≠id∨(kL p.bytes).2.1<(s (kL p.bytes).1).1∨((kL p.bytes).2.1=(s (kL p.bytes).1).1∧(kL p.bytes).2.2.1≠(s (kL p.bytes).1).2) then none else
 some (setS s (kL p.bytes).1 (kL p.bytes).2.1 (kL p.bytes).2.2.1)
def chksF (addr nodes id:Int) (s:Sta) (l:List Pkt):Option Sta:=l.foldlM (chkF addr nodes id) s
theorem chksF_snoc (addr nodes id:Int) (s:Sta) (l:List Pkt) (p:Pkt):chksF addr nodes id s (l++[p])=(chksF addr nodes id s l).bind fun t=>chkF addr nodes id t p:=by
 unfold chksF
 rw [List.foldlM_append]
 cases l.foldlM (chkF addr nodes id) s with
 | none=>rfl
 | some t=>simp [List.foldlM]
def rkey (r:Rq):Int × Opn:=((r.group:Int),r.o)
def OrdX (K:Int × Int × Int) (s0:Sta) (addr nodes id accs seq:Int) (out:List Pkt) (keys:List (Int × Opn)) (guess:List Int) (co:Option Int):Prop :=
 (∃ s,chksF addr nodes id s0 out=some s∧(∀ r∈keys,(s r.1).1<r.2.seq∨s r.1=(r.2.seq,r.2))∧∀ g,(s g).1≤seq) ∧
 (∀ r∈keys,r.2.client=id∧r.2.seq≤seq)∧keys.Pairwise (fun a b=>a.2.seq<b.2.seq)∧(∀ g∈guess,g≤nodes)∧(1≤nodes∧accs≤nodes)∧(∀ k,co=some k→k≤nodes)∧(addr,nodes,id)=K
def Ord (K:Int × Int × Int) (s0:Sta) (c:Cl):Prop:=OrdX K s0 c.addr c.nodes c.id c.accs c.seq c.out (c.reqs.map rkey) c.guess (c.coord.map (·.acc))
theorem Ord.sub {K:Int × Int × Int} {s0:Sta} {c:Cl} (h:Ord K s0 c) {l:List Rq} (hl:l.Sublist c.reqs):Ord K s0 { c with reqs:=l }:=by
 obtain ⟨⟨s,h1,h2,h3⟩,h4,h5,h6⟩:=h
 have hs:=hl.map rkey
 exact ⟨⟨s,h1,fun r hr=>h2 r (hs.subset hr),h3⟩,fun r hr=>h4 r (hs.subset hr),h5.sublist hs,h6⟩
theorem Ord.ask {K:Int × Int × Int} {s0:Sta} {c:Cl} (h:Ord K s0 c) (g:Nat) (o:Opn) (n:Int) (t:Bool) (hd:Hrd):Ord K s0 (qJ c g o n t hd):=by
 obtain ⟨⟨s,h1,h2,h3⟩,h4,h5,h6⟩:=h
 have e:(qJ c g o n t hd).reqs.map rkey=c.reqs.map rkey++[((g:Int),{ o with client:=c.id,seq:=c.seq+1 })]:=by simp [qJ,rkey]
 refine ⟨⟨s,h1,?_,fun x=>by have:=h3 x; show _≤c.seq+1; omega⟩,?_,?_,h6⟩
 ·rw [e]; intro r hr
  rcases List.mem_append.1 hr with hr|hr
  ·exact h2 r hr
  ·rw [List.mem_singleton] at hr; subst hr
   have:=h3 (g:Int)
   left; show (s (g:Int)).1<c.seq+1; omega
 ·rw [e]; intro r hr
  rcases List.mem_append.1 hr with hr|hr
  ·have:=h4 r hr; exact ⟨this.1,by show _≤c.seq+1; omega⟩
  ·rw [List.mem_singleton] at hr; subst hr; exact ⟨rfl,Int.le_refl _⟩
 ·rw [e,List.pairwise_append]
  refine ⟨h5,by simp,?_⟩
  intro a ha b hb
  rw [List.mem_singleton] at hb; subst hb
  have:=(h4 a ha).2
  show _<c.seq+1; omega
theorem Ord.coNone {K:Int × Int × Int} {s0:Sta} {c:Cl} (h:Ord K s0 c):Ord K s0 { c with coord:=none }:=by
 obtain ⟨h1,h2,h3,h4,h5,_,hK⟩:=h
 exact ⟨h1,h2,h3,h4,h5,(fun _ h=>by cases h),hK⟩
theorem Ord.coSome {K:Int × Int × Int} {s0:Sta} {c:Cl} (h:Ord K s0 c) {k:Coo} (hk:k.acc≤c.nodes):Ord K s0 { c with coord:=some k }:=by
 obtain ⟨h1,h2,h3,h4,h5,_,hK⟩:=h
 exact ⟨h1,h2,h3,h4,h5,(fun x h=>by cases h; exact hk),hK⟩
theorem Ord.coNew {K:Int × Int × Int} {s0:Sta} {c:Cl} (h:Ord K s0 c) (me id:Int) (l:List Int):Ord K s0 { c with coord:=newO me id l c.accs }:=by
 unfold newO
 split
 ·exact h.coSome h.2.2.2.2.1.2
 ·exact h.coNone
theorem Ord.guessed {K:Int × Int × Int} {s0:Sta} {c:Cl} (h:Ord K s0 c) (g:Nat) {n:Int} (hn:n≤c.nodes):Ord K s0 (vQ c g n):=by
 obtain ⟨h1,h2,h3,h4,h5⟩:=h
 refine ⟨h1,h2,h3,?_,h5⟩
 intro x hx
 rcases List.mem_or_eq_of_mem_set hx with hx|rfl
 ·exact h4 x hx
 ·exact hn
theorem fits_of {m:Msg} (h:jA m=0):(1≤m.src∧m.src≤199)∧(1≤m.dst∧m.dst≤199):=by
 unfold jA at h
 split at h
 ·omega
 split at h
 ·omega
 split at h
 ·omega
 rename_i h3
 simp only [Bool.not_eq_false] at h3
 unfold qB inB at h3
 simp only [Bool.and_eq_true,decide_eq_true_eq] at h3
 exact h3.1
theorem Ord.out {K:Int × Int × Int} {s0:Sta} {c:Cl} (h:Ord K s0 c) (p:Pkt) (hp:∀ s,chkF c.addr c.nodes c.id s p=some s):Ord K s0 { c with out:=c.out++[p] }:=by
 obtain ⟨⟨s,h1,h2,h3⟩,h4⟩:=h
 refine ⟨⟨s,?_,h2,h3⟩,h4⟩
 show chksF _ _ _ _ (c.out++[p])=_
 rw [chksF_snoc,h1]
 exact hp s
theorem chkF_other {addr nodes id:Int} (s:Sta) {m:Msg} (hk:m.kind=8∨m.kind=10) (hc:jA { m with src:=addr }=0) (hl:(dF { m with src:=addr }).length≤65536) (hd:m.dst≤nodes) :
  chkF addr nodes id s ⟨addr,m.dst,pkB { m with src:=addr }⟩=some s:=by
 have hg:=getM_pkB hc hl (by exact .inr hk)
 have hf:=fits_of hc
 have hk6:m.kind≠6:=by omega
 have ha:(kL (pkB { m with src:=addr })).2.2.2=false:=by
  unfold kL
  rw [hg,if_pos (Or.inr hk6)]
 unfold chkF
 simp only
 rw [ha,hg]
 simp only at hf ⊢
 rw [if_neg (by omega),if_pos trivial,if_neg hk6]
theorem Ord.put {K:Int × Int × Int} {s0:Sta} {c:Cl} (h:Ord K s0 c) {m:Msg} (hk:m.kind=8∨m.kind=10) (hd:m.dst≤c.nodes):Ord K s0 (putF c m):=by
 unfold putF
 simp only
 split
 ·rename_i hc; exact h.out _ fun s=>chkF_other s hk hc.1 hc.2 hd
 ·exact h
theorem Ord.puts {K:Int × Int × Int} {s0:Sta}:∀ (l:List Msg) {c:Cl} (_:Ord K s0 c) (_:∀ m∈l,(m.kind=8∨m.kind=10)∧m.dst≤c.nodes),Ord K s0 (wW c l)
 | [],_,h,_=>h
 | m::l,c,h,hl=>by
  have h1:=h.put (hl m (by simp)).1 (hl m (by simp)).2
  have hn:(putF c m).nodes=c.nodes:=by unfold putF; simp only; split<;>rfl
  exact Ord.puts l h1 fun x hx=>by rw [hn]; exact hl x (by simp [hx])
theorem firstF_ahead {l:List Rq} {i:Nat} (hi:i∈xA l):∃ r,l[i]?=some r∧∀ j,j<i→∀ q,l[j]?=some q→q.group≠r.group:=by
 have hil:=qX hi
 unfold xA at hi
 have h2:=(List.mem_filter.1 hi).2
 rw [List.getElem?_eq_getElem hil] at h2
 simp only [List.all_eq_true,decide_eq_true_eq] at h2
 refine ⟨l[i],List.getElem?_eq_getElem hil,fun j hj q hq=>?_⟩
 refine h2 q ?_
 rw [List.mem_take_iff_getElem]
 obtain ⟨hjl,rfl⟩:=List.getElem?_eq_some_iff.1 hq
 exact ⟨j,by omega,rfl⟩
theorem rkey_sent (l:List Rq) (i:Nat) (n:Int):(l.modify i fun r=>{ r with sent:=n }).map rkey=l.map rkey:=by
 apply List.ext_getElem?
 intro j
 simp only [List.getElem?_map,List.getElem?_modify]
 cases l[j]? with
 | none=>rfl
 | some r=>by_cases h:i=j<;>simp [h,rkey]
theorem Ord.sent {K:Int × Int × Int} {s0:Sta} {c:Cl} (h:Ord K s0 c) (i:Nat):Ord K s0 (gW c i):=by
 unfold Ord at h ⊢
 rw [show (gW c i).reqs.map rkey=c.reqs.map rkey from rkey_sent _ _ _]
 exact h
theorem mem_getD {l:List Int} {k:Nat} {n:Int} (h:∀ g∈l,g≤n) (h0:0≤n):l.getD k 0≤n:=by
 rw [List.getD_eq_getElem?_getD]
 cases hk:l[k]? with
 | none=>exact h0
 | some x=>exact h x (List.mem_of_getElem? hk)
theorem chkF_ask {addr nodes id:Int} (s:Sta) {m:Msg} {o:Opn} (hk:m.kind=6) (hc:jA { m with src:=addr }=0) (hl:(dF { m with src:=addr }).length≤65536) (hd:m.dst≤nodes)
  (hdat:m.data=putO o) (hck:jF o=0) (hsq:m.seq=o.seq) (hcl:o.client=id) (hn:(s m.group).1<o.seq∨s m.group=(o.seq,o)) :
  chkF addr nodes id s ⟨addr,m.dst,pkB { m with src:=addr }⟩=some (setS s m.group o.seq o):=by
 have hg:=getM_pkB hc hl (by exact .inl hk)
 have hf:=fits_of hc
 generalize hm2:({ m with src:=addr }:Msg)=m2 at hg hf
 have e1:m2.src=addr:=by rw [← hm2]
 have e2:m2.dst=m.dst:=by rw [← hm2]
 have e3:m2.kind=6:=by rw [← hm2]; exact hk
 have e4:m2.data=m.data:=by rw [← hm2]
 have e5:m2.seq=m.seq:=by rw [← hm2]
 have e6:m2.group=m.group:=by rw [← hm2]
 have hgo:=getO_putO hck
 have ha:kL (pkB m2)=(m.group,o.seq,o,true):=by
  unfold kL
  rw [hg,if_neg (by simp [e3])]
  simp [e4,hdat,hgo,e5,hsq,e6]
 unfold chkF
 simp only
 rw [ha,hg]
 simp only
 rw [if_neg (by simp [e1,e2]; omega),if_neg (by simp),if_neg]
 intro hh
 rcases hh with hh|hh|⟨hh,hh2⟩
 ·exact hh hcl
 ·rcases hn with hn|hn
  ·omega
  ·rw [hn] at hh; simp only at hh; omega
 ·rcases hn with hn|hn
  ·omega
  ·rw [hn] at hh2; exact hh2 M
theorem Ord.asked {K:Int × Int × Int} {s0:Sta} {c:Cl} (h:Ord K s0 c) {i:Nat} {r:Rq} (hr:c.reqs[i]?=some r) (hfst:∀ j,j<i→∀ q,c.reqs[j]?=some q→q.group≠r.group)
  (p:Pkt) (hp:∀ s:Sta,(r.o.client=c.id)→((s r.group).1<r.o.seq∨s r.group=(r.o.seq,r.o))→chkF c.addr c.nodes c.id s p=some (setS s r.group r.o.seq r.o)):Ord K s0 { c with out:=c.out++[p] }:=by
 obtain ⟨⟨s,h1,h2,h3⟩,h4,h5,h6⟩:=h
 have hmem:((r.group:Int),r.o)∈c.reqs.map rkey:=List.mem_map.2 ⟨r,List.mem_of_getElem? hr,rfl⟩
 have hn:=h2 _ hmem
 have hcl:=h4 _ hmem
 refine ⟨⟨setS s r.group r.o.seq r.o,?_,?_,?_⟩,h4,h5,h6⟩
 ·show chksF _ _ _ _ (c.out++[p])=_
  rw [chksF_snoc,h1]
  exact hp s hcl.1 hn
 ·show ∀ q∈c.reqs.map rkey,_
  intro q hq
  unfold setS
  by_cases hg2:q.1=(r.group:Int)
  ·rw [if_pos hg2]
   obtain ⟨j,hj,rfl⟩:=List.mem_iff_getElem.1 hq
   have hil:=(List.getElem?_eq_some_iff.1 hr).1
   have hil':i<(c.reqs.map rkey).length:=by simpa using hil
   have hi2:(c.reqs.map rkey)[i]=((r.group:Int),r.o):=by
    rw [List.getElem_map,(List.getElem?_eq_some_iff.1 hr).2]; rfl
   rcases Nat.lt_trichotomy j i with hlt|heq|hgt
   ·exfalso
    have hjl:j<c.reqs.length:=by omega
    refine hfst j hlt _ (List.getElem?_eq_getElem hjl) ?_
    rw [List.getElem_map] at hg2
    simp only [rkey] at hg2
    omega
   ·subst heq; right; rw [hi2]
   ·left
    have:=List.pairwise_iff_getElem.1 h5 i j hil' hj hgt
    rw [hi2] at this
    exact this
  ·rw [if_neg hg2]; exact h2 q hq
 ·intro x
  unfold setS
  split
  ·exact hcl.2
  ·exact h3 x
theorem Ord.send {K:Int × Int × Int} {s0:Sta} {c:Cl} (h:Ord K s0 c) {i:Nat} (hi:i∈xA c.reqs):Ord K s0 (wZ c i):=by
 obtain ⟨r,hr,hfst⟩:=firstF_ahead hi
 unfold wZ
 rw [hr]
 simp only
 split
 ·rename_i hck
  have hmd:(askM c r).dst≤c.nodes:=mem_getD h.2.2.2.1 (by have:=h.2.2.2.2.1.1; omega)
  have hr2:∃ r2,(gW c i).reqs[i]?=some r2∧r2.group=r.group∧r2.o=r.o:=by
   refine ⟨{ r with sent:=c.clock },?_,rfl,rfl⟩
   simp [gW,List.getElem?_modify,hr]
  obtain ⟨r2,e1,e2,e3⟩:=hr2
  have hf2:∀ j,j<i→∀ q,(gW c i).reqs[j]?=some q→q.group≠r2.group:=by
   intro j hj q hq
   rw [e2]
   have hne:¬ i=j:=by omega
   have hq2:c.reqs[j]?=some q:=by simpa [gW,List.getElem?_modify,hne] using hq
   exact hfst j hj q hq2
  have h':=h.sent i
  unfold putF
  simp only
  split
  ·rename_i hc
   refine h'.asked e1 hf2 _ fun s hcl hn=>?_
   rw [e2,e3] at *
   exact chkF_ask s (m:=askM c r) M hc.1 hc.2 hmd M hck M hcl hn
  ·exact h'
 ·exact h.sent i
theorem sendF_first (c:Cl) (i:Nat):xA (wZ c i).reqs=xA c.reqs:=by
 obtain ⟨o,q,e,hq⟩:=qN c i
 rw [e]; exact firstF_core hq
theorem Ord.sends {K:Int × Int × Int} {s0:Sta}:∀ (l:List Nat) {c:Cl} (_:Ord K s0 c) (_:∀ i∈l,i∈xA c.reqs),Ord K s0 (wP c l)
 | [],_,h,_=>h
 | i::l,c,h,hl=>by
  show Ord K s0 (wP (if dueF c i=true then wZ c i else c) l)
  split
  ·exact Ord.sends l (h.send (hl i (by simp))) fun j hj=>by rw [sendF_first]; exact hl j (by simp [hj])
  ·exact Ord.sends l h fun j hj=>hl j (by simp [hj])
theorem Ord.flush {K:Int × Int × Int} {s0:Sta} {c:Cl} (h:Ord K s0 c):Ord K s0 (vV c):=h.sends _ fun _ hi=>hi
theorem Ord.done {K:Int × Int × Int} {s0:Sta} {c:Cl} (h:Ord K s0 c):∃ s1,chksF K.1 K.2.1 K.2.2 s0 (vV c).out=some s1∧Ord K s1 (dO c):=by
 have hs:=flushF_same c
 obtain ⟨⟨s,h1,h2,h3⟩,h4⟩:=h.flush
 obtain ⟨o,q,e,hq⟩:=hs
 refine ⟨s,?_,⟨s,rfl,h2,h3⟩,h4⟩
 have hK:=h4.2.2.2.2.2
 rw [← hK]
 exact h1
theorem Ord.drop {K:Int × Int × Int} {s0:Sta} {c:Cl} (h:Ord K s0 c):Ord K s0 (kR c):=h.sub (List.filter_sublist ..)
theorem Ord.clear {K:Int × Int × Int} {s0:Sta} {c:Cl} (h:Ord K s0 c):Ord K s0 (kE c):=h.drop.coNone
theorem Ord.quiets {K:Int × Int × Int} {s0:Sta} (o:Opn):∀ (l:List Int) {c:Cl} (_:Ord K s0 c),Ord K s0 (wY c o l)
 | [],_,h=>h
 | g::l,c,h=>Ord.quiets o l (h.ask g.toNat o 0 true .quiet)
theorem Ord.tidy {K:Int × Int × Int} {s0:Sta} {c:Cl} (h:Ord K s0 c) (id:Int) (l:List Int) (v:Int):Ord K s0 (jZ c id l v):=Ord.quiets (endOp id v) l (c:={ c with ended:=wC c.ended id v }) h
theorem Ord.look {K:Int × Int × Int} {s0:Sta} {c:Cl} (h:Ord K s0 c) (n:Int):Ord K s0 (lookF c n):=h.ask _ _ _ _ _
theorem Ord.turn {K:Int × Int × Int} {s0:Sta} {c:Cl} (h:Ord K s0 c):Ord K s0 (wF c):=by
 unfold wF
 split
 ·exact h
 ·exact Ord.look (c:={ c with stale:=true }) h 0
theorem Ord.turnIf {K:Int × Int × Int} {s0:Sta} {c:Cl} (h:Ord K s0 c) (p:Prop) [Decidable p]:Ord K s0 (if p then wF c else c):=by
 split
 ·exact h.turn
 ·exact h
theorem Ord.lost {K:Int × Int × Int} {s0:Sta} {c:Cl} (h:Ord K s0 c) (e:Int):Ord K s0 (lostF c e):=by
 unfold lostF
 simp only
 have h1:=h.turnIf (e=26)
 generalize (if e=26 then wF c else c)=c1 at h1
 exact h1.tidy _ _ _
theorem Ord.read {K:Int × Int × Int} {s0:Sta} {c:Cl} (h:Ord K s0 c) (b n:Int):Ord K s0 (readF c b n):=Ord.ask (c:={ c with cur:=_ }) h _ _ _ _ _
theorem Ord.parts {K:Int × Int × Int} {s0:Sta} (t:Txn):∀ (l:List Rng) {c:Cl} (_:Ord K s0 c),Ord K s0 (dG t l c)
 | [],_,h=>h
 | r::l,c,h=>Ord.parts t l (h.ask r.group.toNat (kG t r) 0 false _)
theorem Ord.prepare {K:Int × Int × Int} {s0:Sta} {c:Cl} (h:Ord K s0 c):Ord K s0 (gE c):=Ord.parts _ _ (Ord.coNew (c:={ c with own:=true,cur:=_,about:=_ }) h _ _ _)
theorem Ord.close {K:Int × Int × Int} {s0:Sta} {c:Cl} (h:Ord K s0 c) (e:Int):Ord K s0 (uM c e):=by unfold uM; split<;>exact h
theorem startL_of (k:Coo) (n:Int) {N:Int} (hk:k.acc≤N):∀ m∈startL k n,(m.kind=8∨m.kind=10)∧m.dst≤N:=by
 intro m hm
 unfold startL allF at hm
 obtain ⟨p,_,hm⟩:=List.mem_flatMap.1 hm
 obtain ⟨i,hi,rfl⟩:=List.mem_map.1 hm
 rw [List.mem_range] at hi
 exact ⟨.inl M,by show (i:Int)+1≤N; omega⟩
theorem Ord.start {K:Int × Int × Int} {s0:Sta} {c:Cl} (h:Ord K s0 c):Ord K s0 (wM c):=by
 unfold wM
 split
 ·exact h
 ·rename_i k hk
  have hk2:k.acc≤c.nodes:=h.2.2.2.2.2.1 k.acc (by rw [hk]; rfl)
  simp only
  exact Ord.puts _ (Ord.coSome (c:={ c with started:=_,round:=_ }) h (k:=startC k _) hk2) (startL_of k _ hk2)
theorem Ord.resolve {K:Int × Int × Int} {s0:Sta} {c:Cl} (h:Ord K s0 c) (d:Dbt):Ord K s0 (vJ c d):=Ord.start (Ord.coNew (c:={ c with about:=d.id }) h _ _ _)
theorem Ord.next {K:Int × Int × Int} {s0:Sta} {c:Cl} (h:Ord K s0 c) (v:Int):Ord K s0 (nextF c v):=by
 unfold nextF
 split
 ·exact h
 ·split
  ·exact h
  ·exact h.resolve _
theorem Ord.come {K:Int × Int × Int} {s0:Sta} {c:Cl} (h:Ord K s0 c) (v:Int):Ord K s0 (bM c v):=by
 unfold bM
 split
 ·exact (h.clear.tidy _ _ _).close _
 ·unfold uJ
  exact Ord.next (Ord.tidy (c:={ kE c with doubts:=c.doubts.filter fun x=>decide (x.id≠(gN c).id) }) h.clear _ _ _) _
theorem Ord.kept {K:Int × Int × Int} {s0:Sta} {c:Cl} (h:Ord K s0 c) (x:Cal) (n:Int):Ord K s0 (keptF c x n):=h.ask _ _ _ _ _
theorem Ord.run {K:Int × Int × Int} {s0:Sta} {c:Cl} (h:Ord K s0 c) (w:Wts):Ord K s0 (runW c w):=by
 cases w with
 | read x=>exact h.read _ _
 | prep=>exact h.prepare
 | snap=>exact h.prepare
 | kept x=>exact h.kept _ _
 | again x=>exact h.kept _ _
theorem Ord.mapped {K:Int × Int × Int} {s0:Sta} {c:Cl} (h:Ord K s0 c) (w:Wts):Ord K s0 (vE c w):=by
 unfold vE
 split
 ·exact h
 ·exact h.run w
theorem Ord.learn {K:Int × Int × Int} {s0:Sta} {c:Cl} (h:Ord K s0 c) (b:List Bt):Ord K s0 (jS c b):=by
 unfold jS; split<;>exact h
theorem Ord.go {K:Int × Int × Int} {s0:Sta} {c:Cl} (h:Ord K s0 c):Ord K s0 (goF c):=by
 unfold goF
 split
 ·exact h
 ·exact Ord.run (c:={ c with waits:=none }) h _
theorem Ord.heard {K:Int × Int × Int} {s0:Sta} {c:Cl} (h:Ord K s0 c) (hd:Hrd) (x:Res):Ord K s0 (xX c hd x):=by
 cases hd with
 | quiet=>exact h
 | look =>
  simp only [xX]
  split
  ·exact h.look 1
  ·split
   ·exact (h.learn _).look 1
   ·exact Ord.go (c:={ jS c x.data with stale:=false }) (h.learn _)
 | read b =>
  simp only [xX]
  split
  ·exact h
  ·split
   ·exact h.read _ _
   ·exact h.lost _
 | part o g =>
  simp only [xX]
  split
  ·exact h
  ·split
   ·exact h.ask _ _ _ _ _
   ·exact (h.turnIf _).come _
 | kept y =>
  simp only [xX]
  split
  ·exact h.kept _ _
  ·split
   ·exact h.turn.mapped _
   ·exact h
 | plan y =>
  simp only [xX]
  split
  ·exact h
  ·exact h.ask _ _ _ _ _
 | frz y e =>
  simp only [xX]
  split
  ·exact h.ask _ _ _ _ _
  ·split
   ·exact h.ask _ _ _ _ _
   ·exact h
 | inst y e =>
  simp only [xX]
  split
  ·exact h
  ·exact h.ask _ _ _ _ _
 | fin y e =>
  simp only [xX]
  split
  ·exact h
  ·exact (h.learn _).ask _ _ _ _ _
 | change y =>
  simp only [xX]
  split
  ·exact h.ask _ _ _ _ _
  ·exact h
theorem Ord.does {K:Int × Int × Int} {s0:Sta} {c:Cl} (h:Ord K s0 c) (x:Cal) (d:List Bt):Ord K s0 (vZ c x d):=by
 unfold vZ
 split
 ·unfold beginF; split
  ·exact h
  split<;>exact h
 split
 ·unfold vA; split
  ·exact h
  split
  ·exact h
  split
  ·exact h
  split
  ·exact h
  split
  ·exact h
  ·exact h.mapped _
 split
 ·unfold qQ; split<;>exact h
 split
 ·unfold commitF; split
  ·exact h
  split
  ·exact h
  ·exact h.mapped _
 split
 ·unfold abortF; split
  ·exact h
  ·exact h.tidy _ _ _
 split
 ·unfold qS; split
  ·exact h
  split
  ·exact h
  ·exact h.resolve _
 split
 ·unfold snapshotF; split
  ·exact h
  split
  ·exact h
  split
  ·exact h
  ·exact Ord.mapped (c:={ kW c with cur:=_,own:=true }) h _
 split
 ·unfold readSnapF; split
  ·exact h
  split
  ·exact h
  ·exact h.mapped _
 split
 ·unfold dR; split
  ·exact h
  split
  ·exact h
  ·exact h.resolve _
 split
 ·unfold moveF; split
  ·exact h
  split
  ·exact h
  split
  ·exact h
  ·exact h.ask _ _ _ _ _
 ·unfold memberF; split
  ·exact h
  split
  ·exact h
  split
  ·exact h
  ·exact h.ask _ _ _ _ _
def Goes (K:Int × Int × Int) (s0:Sta) (r:Cl × Rsp):Prop:=∃ s1,chksF K.1 K.2.1 K.2.2 s0 r.2.out=some s1∧Ord K s1 r.1
theorem Ord.ends {K:Int × Int × Int} {s0:Sta} {c:Cl} (h:Ord K s0 c):Goes K s0 (dO c,endF c):=h.done
theorem Ord.call {K:Int × Int × Int} {s0:Sta} {c:Cl} (h:Ord K s0 c) (x:Cal) (d:List Bt):Goes K s0 (wG c x d):=by
 unfold wG
 split
 ·exact ⟨s0,rfl,h⟩
 ·split
  ·exact ⟨s0,rfl,h⟩
  ·exact (Ord.does (c:={ c with busy:=true,kind:=x.kind,since:=c.clock }) h x d).ends
theorem againF_same (c:Cl) (i:Nat):xA (kO c i).reqs=xA c.reqs:=by
 unfold kO
 split
 ·rfl
 ·split
  ·exact sendF_first _ _
  ·rfl
theorem Ord.again {K:Int × Int × Int} {s0:Sta} {c:Cl} (h:Ord K s0 c) {i:Nat} (hi:i∈xA c.reqs):Ord K s0 (kO c i):=by
 unfold kO
 split
 ·exact h
 ·rename_i r hr
  split
  ·have h1:=h.2.2.2.2.1.1
   have h2:=Int.emod_lt_of_pos (vO c r.group) (show 0<c.nodes by omega)
   exact Ord.send (h.guessed r.group (by omega)) hi
  ·exact h
theorem Ord.agains {K:Int × Int × Int} {s0:Sta}:∀ (l:List Nat) {c:Cl} (_:Ord K s0 c) (_:∀ i∈l,i∈xA c.reqs),Ord K s0 (l.foldl kO c)
 | [],_,h,_=>h
 | i::l,c,h,hl=>Ord.agains l (h.again (hl i (by simp))) fun j hj=>by rw [againF_same]; exact hl j (by simp [hj])
theorem Ord.over {K:Int × Int × Int} {s0:Sta} {c:Cl} (h:Ord K s0 c):Ord K s0 (qF c):=by
 unfold qF
 split
 ·split
  ·exact Ord.close (c:={ kE c with doubts:=_,own:=true }) h.clear _
  ·exact Ord.close (c:={ jZ (kE c) _ _ _ with own:=true }) (h.clear.tidy _ _ _) _
 ·split
  ·exact h.clear.lost _
  ·split
   ·exact h.clear
   ·exact h.clear
theorem Ord.startIf {K:Int × Int × Int} {s0:Sta} {c:Cl} (h:Ord K s0 c) (p:Prop) [Decidable p]:Ord K s0 (if p then wM c else c):=by
 split
 ·exact h.start
 ·exact h
theorem Ord.overIf {K:Int × Int × Int} {s0:Sta} {c:Cl} (h:Ord K s0 c) (p:Prop) [Decidable p]:Ord K s0 (if p then qF c else c):=by
 split
 ·exact h.over
 ·exact h
theorem Ord.tick {K:Int × Int × Int} {s0:Sta} {c:Cl} (h:Ord K s0 c):Goes K s0 (tickF c):=by
 unfold tickF
 simp only
 have h1:Ord K s0 ((xA c.reqs).foldl kO { c with clock:=c.clock+1 }):=Ord.agains _ (c:={ c with clock:=c.clock+1 }) h fun _ hi=>hi
 generalize (xA c.reqs).foldl kO { c with clock:=c.clock+1 }=c1 at h1
 exact ((h1.startIf _).overIf _).ends
theorem Ord.told {K:Int × Int × Int} {s0:Sta} {c:Cl} (h:Ord K s0 c) (m:Msg):Ord K s0 (toldF c m):=by
 unfold toldF
 split
 ·exact h
 ·rename_i i hi
  split
  ·exact h
  ·rename_i r hr
   split
   ·split
    ·rename_i hx
     exact Ord.send (h.guessed r.group hx.2.1) (List.mem_of_find?_eq_some hi)
    ·exact h
   ·split
    ·exact h
    ·simp only
     split
     ·rename_i hx
      exact Ord.heard (Ord.sub (h.guessed r.group hx) (List.eraseIdx_sublist ..)) _ _
     ·exact Ord.heard (h.sub (List.eraseIdx_sublist ..)) _ _
theorem stepC_of (k:Coo) (m:Msg) {N:Int} (hk:k.acc≤N):(kX k m).1.acc=k.acc∧∀ x∈(kX k m).2,(x.kind=8∨x.kind=10)∧x.dst≤N:=by
 unfold kX
 split
 ·exact ⟨rfl,by simp⟩
 split
 ·exact ⟨rfl,by simp⟩
 split
 ·exact ⟨rfl,by simp⟩
 split
 ·refine ⟨?_,by simp⟩
  unfold accC; simp only; repeat' split
  all_goals rfl
 ·unfold bF
  simp only
  split
  ·exact ⟨rfl,by simp⟩
  split
  ·exact ⟨rfl,by simp⟩
  split
  ·exact ⟨rfl,by simp⟩
  ·refine ⟨rfl,fun x hx=>?_⟩
   unfold allF at hx
   obtain ⟨i,hi,rfl⟩:=List.mem_map.1 hx
   rw [List.mem_range] at hi
   exact ⟨.inr M,by show (i:Int)+1≤N; omega⟩
theorem Ord.step {K:Int × Int × Int} {s0:Sta} {c:Cl} (h:Ord K s0 c) (m:Msg):Ord K s0 (stepF c m):=by
 unfold stepF
 split
 ·exact h
 ·rename_i k hk
  have hk2:k.acc≤c.nodes:=h.2.2.2.2.2.1 k.acc (by rw [hk]; rfl)
  have hs:=stepC_of k m hk2
  simp only
  have h1:Ord K s0 (wW { c with coord:=some (kX k m).1 } (kX k m).2):=Ord.puts _ (h.coSome (by rw [hs.1]; exact hk2)) hs.2
  split
  ·exact h1.come _
  ·exact h1
theorem Ord.take {K:Int × Int × Int} {s0:Sta} {c:Cl} (h:Ord K s0 c) (src dst:Int) (b:List Bt):Goes K s0 (dL c src dst b):=by
 unfold dL
 simp only
 split
 ·exact ⟨s0,rfl,h⟩
 ·split
  ·exact (h.told _).ends
  ·split
   ·exact (h.step _).ends
   ·exact h.ends
end Sl
end Go.Proofs.YtfahijncpmlhjaaGreat
