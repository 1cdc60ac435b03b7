/-
  What clientCommits.proved hangs on, part 5 of 7: ClPh, ClPi, ClPj, ClPk2, ClWq, ClNa, ClXa, ClWr, ClWs, ClWt, ClWu, ClWv, ClQa, ClQc, ClQb, ClWaa, ClWbb.
-/
import Derived.Test.YtfahijncpmlhjaaGreatCm4
import Derived.Test.YtfahijncpmlhjaaGreatCm2
import Derived.LaidEqlPtr
set_option linter.unusedVariables false
set_option linter.unusedSimpArgs false
namespace Go.Proofs.YtfahijncpmlhjaaGreat
open Go Go.RowKit
namespace Sl
set_option maxHeartbeats 16000000
set_option maxRecDepth 4000
set_option synthInstance.maxHeartbeats 400000
set_option synthInstance.maxSize 100000
attribute [local irreducible] xY yW xC
theorem zcT {G G' : Prop} (h : G') (f : Zh G'→G:=by intro h; (repeat (first|refine zE ?_|refine zK M M M ?_|refine xE M M ?_|refine zP ?_|refine zI M ?_)); exact h.o) : G:=f ⟨h⟩
theorem coAccept_spec (w0:World) (b:Nat) (k:Coo) (m:Msg) (ve vd:Value) (S:Hp) (H:uW w0 b k S) (hbd0:((jU k.accepted (m.part,m.ballot,m.value)).getD []).length≤1000000) :
  yO Tryz.prog w0 116 [.pointer (some ⟨b,0,none⟩),.agg (xI m ve vd).toArray] S (fun r h'=>r=.tuple #[]∧∃ S2,uW w0 b (accC k m) S2∧S2=h'):=by
 obtain ⟨vp,pm,pp,ab,cb,h1,h2,h3,h4,h5,hp,ha,hc,hm,hq,rfl⟩:=H.out
 have H0:=H
 clear H
 obtain ⟨va,h2a,h2b,ha1,ha2,rfl⟩:=ha
 generalize hC:cooC b k.me k.txn vp k.acc (.map (some ab)) (.map (some cb)) (.bool k.started) k.number pm pp k.top=C at *
 obtain ⟨me,txn,parts,acc,l1,chosen,st,num,l2,l3,top⟩:=k
 generalize hk:(⟨me,txn,parts,acc,l1,chosen,st,num,l2,l3,top⟩:Coo)=k0 at *
 refine zN Tryz.func116 M Tryz.ntmps116 Tryz.results116 M fun fr=>?_
 refine zF ?_
 refine jP (fun g' L'=>∃ (b1:Nat),Sub g' [(0,.pointer (some ⟨b,0,none⟩)),(3,.pointer (some ⟨b1,0,none⟩))]∧L'=pt b1 (.cells (xI m ve vd).toArray 55 (0,0))+(C+(h1+(h2a+h2b+(h3+(h4+h5))))+fr)) ?_ ?_
 ·repeat (first|refine zB ?_|refine zE ?_|refine xN M (c:=[_,_,_,_,_,_,_,_,_,_,_,_,_,_,_,_,_]) M M M (fun _=>?_))
  rename_i b1
  exact ⟨b1,zsb,rfl⟩
 rintro g' _ ⟨b1,hsub,rfl⟩
 refine jV hsub ?_
 clear hsub g'
 by_cases hgo:m.value≠1∧m.value≠2
 ·refine zbT ?_
  refine yF M M (xZ M M) (fun n1=>?_) (fun n1=>absurd hgo.1 n1)
  refine zaN ?_
  refine yF M M (xZ M M) (fun n2=>?_) (fun n2=>absurd hgo.2 n2)
  repeat (first|refine zE ?_|refine zK M M M ?_|refine zM ?_|refine zJ M ?_)
  refine ⟨[],C+(h1+(h2a+h2b+(h3+(h4+h5)))),_,trivial,⟨rfl,_,?_,rfl⟩,yJ.out⟩
  unfold accC
  rw [if_pos hgo]
  exact H0
 refine zF ?_
 refine jP (fun g' L'=>Sub g' [(0,.pointer (some ⟨b,0,none⟩)),(3,.pointer (some ⟨b1,0,none⟩))]∧L'=pt b1 (.cells (xI m ve vd).toArray 55 (0,0))+(C+(h1+(h2a+h2b+(h3+(h4+h5))))+fr)) ?_ ?_
 ·refine zbT ?_
  refine yF M M (xZ M M) (fun n1=>?_) (fun n1=>?_)
  ·refine zaN ?_
   refine yF M M (xZ M M) (fun n2=>absurd ⟨n1,n2⟩ hgo) (fun n2=>?_)
   refine zbF ?_
   exact ⟨zsb,rfl⟩
  ·refine zcT ?_
   exact ⟨zsb,rfl⟩
 rintro g' _ ⟨hsub,rfl⟩
 refine jV hsub ?_
 clear hsub g'
 subst hC
 repeat (first|refine zF ?_|refine zB ?_|refine zE ?_|refine zY M M M M M ?_|refine yM M M M M M ?_|refine yL (vs:=[_,_,_]) (cells:=[_,_,_]) M M M M ?_|refine yY M (vs:=[_,_,_]) M M M M (c':=[_,_,_]) M M ?_|refine xK (c:=[_,_,_]) M M M (fun _=>?_))
 rename_i b4
 have hgd:∃ bd:Bool,(bd=true↔jU k0.accepted (m.part,m.ballot,m.value)=none)∧(((jU va (m.part,m.ballot,m.value)).getD (.map none)=.map none∧bd=true)∨((∃ ib,(jU va (m.part,m.ballot,m.value)).getD (.map none)=.map (some ib))∧bd=false)):=by
  rcases hg:jU k0.accepted (m.part,m.ballot,m.value) with _|x
  ·exact ⟨true,by simp,.inl ⟨by rw [gP.none ha2 hg]; rfl,rfl⟩⟩
  ·obtain ⟨v,q1,q2,e1,⟨ib,rfl,hib⟩,e3,e4⟩:=gP.some ha2 hg
   exact ⟨false,by simp,.inr ⟨⟨ib,by rw [e1]; rfl⟩,rfl⟩⟩
 obtain ⟨bd,hbd,hbv⟩:=hgd
 refine jP (fun g' L'=>Sub g' [(0,.pointer (some ⟨b,0,none⟩)),(3,.pointer (some ⟨b1,0,none⟩)),(4,.pointer (some ⟨b4,0,none⟩)),(26,.bool bd)] ∧
  L'=pt b4 (.cells [.int .i64 m.part,.int .i64 m.ballot,.int .i64 m.value].toArray 249 (0,0))+(pt b1 (.cells (xI m ve vd).toArray 55 (0,0))+(cooC b k0.me k0.txn vp k0.acc (.map (some ab)) (.map (some cb)) (.bool k0.started) k0.number pm pp k0.top+(h1+(h2a+h2b+(h3+(h4+h5))))+fr))) ?_ ?_
 ·refine yB [5] [0,1,2,3,4,5,6] (by kernel_rfl) M (by kernel_rfl) (by kernel_rfl) ?_
  refine zcS ?_
  refine xS M M M M (bK (k:=(m.part,m.ballot,m.value)) M M ha1) (xF.all _) ?_
  rintro _ _ ⟨rfl,rfl⟩
  refine ⟨zka,?_⟩
  skip
  refine yD M M M M (pv_eql_nilmap M M hbv) ?_
  repeat (refine yI ?_)
  skip
  exact ⟨zsb,rfl⟩
 rintro g' _ ⟨hsub,rfl⟩
 refine jV hsub ?_
 clear hsub g'
 refine jP (fun g' L'=>∃ (va2:List ((Int × Int × Int) × Value)) (hA hI hR:Hp) (ib:Nat),Sub g' [(0,.pointer (some ⟨b,0,none⟩)),(3,.pointer (some ⟨b1,0,none⟩)),(4,.pointer (some ⟨b4,0,none⟩))]∧qT Tryz.prog ab va2 hA∧jU va2 (m.part,m.ballot,m.value)=some (.map (some ib)) ∧
  qT Tryz.prog ib (vI ((jU k0.accepted (m.part,m.ballot,m.value)).getD [])) hI∧(∀ (y:List (Int × Int)) (hy:Hp),qT Tryz.prog ib (vI y) hy→gP InnerAt (wC k0.accepted (m.part,m.ballot,m.value) y) va2 (hy+hR)) ∧
  L'=pt b4 (.cells [.int .i64 m.part,.int .i64 m.ballot,.int .i64 m.value].toArray 249 (0,0))+(pt b1 (.cells (xI m ve vd).toArray 55 (0,0))+(cooC b k0.me k0.txn vp k0.acc (.map (some ab)) (.map (some cb)) (.bool k0.started) k0.number pm pp k0.top+(h1+(hA+(hI+hR)+(h3+(h4+h5))))+fr))) ?_ ?_
 ·cases bd
  ·rcases hg:jU k0.accepted (m.part,m.ballot,m.value) with _|x
   ·have:=hbd.2 hg; cases this
   ·obtain ⟨v,q1,q2,e1,⟨ib,rfl,hib⟩,rfl,e4⟩:=gP.some ha2 hg
    refine zcM ?_
    exact ⟨va,h2a,q1,q2,ib,zsb,ha1,e1,hib,fun y hy hh=>by have:=e4 (y:=y) (u:=.map (some ib)) (h3:=hy) ⟨ib,rfl,hh⟩; rwa [updA_same e1] at this,rfl⟩
  ·have hg:jU k0.accepted (m.part,m.ballot,m.value)=none:=hbd.1 M
   repeat (refine zJ M ?_)
   refine yB [5,6] [0,1,2,3,4,5,6] (by kernel_rfl) M (by kernel_rfl) (by kernel_rfl) ?_
   refine zcS ?_
   refine xS M M M M ev_mapNew (xF.all _) ?_
   rintro _ _ ⟨ib,rfl,rfl⟩
   refine ⟨zka,?_⟩
   skip
   refine xS M M M M (ev_mapSet (k:=(m.part,m.ballot,m.value)) M M M ha1) (xF.all _) ?_
   rintro _ _ ⟨hA,hA1,rfl⟩
   refine ⟨zka,?_⟩
   repeat (refine yI ?_)
   skip
   exact ⟨wC va (m.part,m.ballot,m.value) (.map (some ib)),hA,pt ib (.map #[] 0),h2b,ib,zsb,hA1,by rw [getA_upd,if_pos M],by rw [hg]; exact qT.empty ib,fun y hy hh=>gP.new ha2 hg ⟨ib,rfl,hh⟩,by ac_rfl⟩
 rintro g' _ ⟨va2,hA,hI,hR,ib,hsub,hA1,hA2,hI1,hAs,rfl⟩
 refine jV hsub ?_
 clear hsub g'
 have hA3:(jU va2 (m.part,m.ballot,m.value)).getD (.map none)=.map (some ib):=by rw [hA2]; rfl
 generalize hi0:(jU k0.accepted (m.part,m.ballot,m.value)).getD []=i0 at *
 repeat (refine zF ?_)
 refine yB [5,8] [0,1,2,3,4,6,7,5,8] (by kernel_rfl) M (by kernel_rfl) (by kernel_rfl) ?_
 refine zcS ?_
 refine xS M M M M (bK (k:=(m.part,m.ballot,m.value)) M M hA1) (xF.all _) ?_
 rintro _ _ ⟨rfl,rfl⟩
 refine ⟨zka,?_⟩
 rw [hA3]
 skip
 refine xS M M M M (ev_mapSet (k:=m.src) M M M hI1) (xF.all _) ?_
 rintro _ _ ⟨hI2,hI3,rfl⟩
 refine ⟨zka,?_⟩
 rw [updA_vI] at hI3
 repeat (refine yI ?_)
 repeat (refine zF ?_)
 refine yB [5,6] [0,1,2,3,4,8,9,10,11,5,6,7,12] (by kernel_rfl) M (by kernel_rfl) (by kernel_rfl) ?_
 refine zcS ?_
 refine xS M M M M (bK (k:=(m.part,m.ballot,m.value)) M M hA1) (xF.all _) ?_
 rintro _ _ ⟨rfl,rfl⟩
 refine ⟨zka,?_⟩
 rw [hA3]
 skip
 refine xS M M M M (pv_len_map M hI3) (xF.all _) ?_
 rintro _ _ ⟨rfl,rfl⟩
 refine ⟨zka,?_⟩
 skip
 have hil:(vI (wC i0 m.src 1)).length=(wC i0 m.src 1).length:=by simp [vI]
 have hil2:(wC i0 m.src 1).length≤1000001:=by have:=updA_length i0 m.src 1; omega
 rw [hil]
 refine yD M M M M (pv_mul M M (by omega) (by omega)) ?_
 skip
 refine jY M M M M (kB M M) (fun n3=>?_) (fun n3=>?_)
 ·repeat (refine yI ?_)
  repeat (refine zJ M ?_)
  refine yB [12,16] [0,1,2,3,4,5,6,7,8,9,10,11,13,14,12,15,16] (by kernel_rfl) M (by kernel_rfl) (by kernel_rfl) ?_
  refine zaF ?_
  refine xS M M M M (bK (k:=m.part) M M hc) (xF.all _) ?_
  rintro _ _ ⟨rfl,rfl⟩
  refine ⟨zka,?_⟩
  rw [mapI_vI]
  skip
  refine yD M M M M (pv_max M M) ?_
  rw [show (if dW k0.chosen m.part<m.value then m.value else dW k0.chosen m.part)=max (dW k0.chosen m.part) m.value by split<;>omega]
  skip
  refine xS M M M M (ev_mapSet (k:=m.part) M M M hc) (xF.all _) ?_
  rintro _ _ ⟨hC2,hC3,rfl⟩
  refine ⟨zka,?_⟩
  rw [updA_vI] at hC3
  repeat (refine yI ?_)
  skip
  have hK:uW w0 b (accC k0 m) (cooC b k0.me k0.txn vp k0.acc (.map (some ab)) (.map (some cb)) (.bool k0.started) k0.number pm pp k0.top+(h1+(hA+(hI2+hR)+(hC2+(h4+h5))))):=by
   unfold accC
   rw [if_neg hgo,hi0]
   simp only
   rw [if_pos n3]
   exact ⟨⟨vp,pm,pp,ab,cb,h1,_,hC2,h4,h5,hp,⟨va2,hA,hI2+hR,hA1,hAs _ _ hI3,rfl⟩,hC3,hm,hq,rfl⟩⟩
  exact ⟨[],_,pt b4 (.cells [.int .i64 m.part,.int .i64 m.ballot,.int .i64 m.value].toArray 249 (0,0))+pt b1 (.cells (xI m ve vd).toArray 55 (0,0)),trivial,⟨rfl,_,hK,rfl⟩,by ac_rfl⟩
 ·repeat (refine yI ?_)
  refine zcM ?_
  have hK:uW w0 b (accC k0 m) (cooC b k0.me k0.txn vp k0.acc (.map (some ab)) (.map (some cb)) (.bool k0.started) k0.number pm pp k0.top+(h1+(hA+(hI2+hR)+(h3+(h4+h5))))):=by
   unfold accC
   rw [if_neg hgo,hi0]
   simp only
   rw [if_neg n3]
   exact ⟨⟨vp,pm,pp,ab,cb,h1,_,h3,h4,h5,hp,⟨va2,hA,hI2+hR,hA1,hAs _ _ hI3,rfl⟩,hc,hm,hq,rfl⟩⟩
  exact ⟨[],_,pt b4 (.cells [.int .i64 m.part,.int .i64 m.ballot,.int .i64 m.value].toArray 249 (0,0))+pt b1 (.cells (xI m ve vd).toArray 55 (0,0)),trivial,⟨rfl,_,hK,rfl⟩,by ac_rfl⟩
theorem indexFuncPrm_spec (w0:World) (X:Hp) (v:Value) (xs:List Prm) (k0:Nat) [hf:Fun Tryz.prog k0] (caps:List Value) (p:Prm→Bool) (hv:RdL w0 X v xs) (hl:xs.length≤1000000000)
  (hp:∀ Y x e,x∈xs→Rep.rd w0 Y x e→yO Tryz.prog w0 k0 (.agg e.toArray::caps) X (fun r h'=>r=.bool (p x)∧X=h')) :
  yO Tryz.prog w0 279 [v,.func (.func k0) #[] caps.toArray] X (fun r h'=>r=.int .i64 (qG p xs)∧X=h'):=by
 obtain ⟨a,c,rfl⟩:=hv.shape
 refine zN Tryz.func279 M Tryz.ntmps279 Tryz.results279 M fun fr=>?_
 refine zaS ?_
 refine yN xs.length (fun k g L=>∃ R:Hp,g=[(0,.slice a xs.length c),(1,.func (.func k0) #[] caps.toArray),(7,.int .i64 xs.length),(8,.int .i64 k)]∧L=X+fr+R∧∀ x∈xs.take k,p x=false) _ ⟨0,rfl,(yA _).symm,by simp⟩ zsb ?_
 rintro k g L hk ⟨R,rfl,rfl,hpre⟩
 refine zaH ?_
 refine yF M M (yS M M) (fun h2=>?_) (fun h2=>?_)
 ·have hx:k<xs.length:=by omega
  obtain ⟨b2,o2,rfl,e,hr,hat⟩:=hv.at hx
  refine zcA ?_
  refine dJ M M (yE M) (zH M hat (beq_iff_eq.2 (Rep.len hr))) ?_
  refine zX M M (zQ M M (by simp<;>rfl)) (hp X xs[k] e (List.getElem_mem hx) hr) ?_
  rintro _ _ ⟨rfl,rfl⟩
  cases h3:p xs[k]
  ·refine zaJ ?_
   exact ⟨hx,_,zsb,_,rfl,yJ.out,vG hx hpre h3⟩
  ·refine zaB ?_
   exact ⟨[_],X,_,⟨rfl,trivial⟩,⟨by rw [dM hx h3 hpre]; rfl,rfl⟩,yJ.out⟩
 ·refine zaK ?_
  rw [List.take_of_length_le (by omega)] at hpre
  exact ⟨[_],X,_,⟨rfl,trivial⟩,⟨by rw [qV hpre]; rfl,rfl⟩,yJ.out⟩
theorem containsFuncPrm_spec (w0:World) (X:Hp) (v:Value) (xs:List Prm) (k0:Nat) [hf:Fun Tryz.prog k0] (caps:List Value) (p:Prm→Bool) (hv:RdL w0 X v xs) (hl:xs.length≤1000000000)
  (hp:∀ Y x e,x∈xs→Rep.rd w0 Y x e→yO Tryz.prog w0 k0 (.agg e.toArray::caps) X (fun r h'=>r=.bool (p x)∧X=h')) :
  yO Tryz.prog w0 204 [v,.func (.func k0) #[] caps.toArray] X (fun r h'=>r=.bool (xs.any p)∧X=h'):=by
 have hi:=indexFuncPrm_spec w0 X v xs k0 caps p hv hl hp
 obtain ⟨a,c,rfl⟩:=hv.shape
 refine zN Tryz.func204 M Tryz.ntmps204 Tryz.results204 M fun fr=>?_
 refine zaC ?_
 refine zX M M (zQ M M M) hi ?_
 rintro _ _ ⟨rfl,rfl⟩
 refine yG M M (kQ M M) ?_
 refine zaE ?_
 exact ⟨[_],X,_,⟨rfl,trivial⟩,⟨by rw [gI]; rfl,rfl⟩,yJ.out⟩
theorem promise1_spec (w0:World) (X:Hp) (p:Prm) (m:Msg) (ve vd:Value) (b1:Nat) (h:At w0 X b1 0 (xI m ve vd)) :
  yO Tryz.prog w0 205 [.agg [.int .i64 p.src,.int .i64 p.index,.int .i64 p.value].toArray,.pointer (some ⟨b1,0,none⟩)] X (fun v h'=>v=.bool (decide (p.src=m.src))∧X=h'):=by
 refine zN Tryz.func205 M Tryz.ntmps205 Tryz.results205 M fun fr=>?_
 repeat (first|refine zF ?_|refine zB ?_|refine zE ?_|refine zK M M M ?_|refine zY M M M M M ?_|refine yM M M M M M ?_|refine gO M (by assumption) M M M M ?_|refine xN M (c:=[_,_,_]) M M M (fun _=>?_))
 refine yG M M (yK M M) ?_
 refine zaE ?_
 exact ⟨[_],X,_,⟨rfl,trivial⟩,⟨rfl,rfl⟩,yJ.out⟩
theorem zcU {G G' : Prop} (h : G') (f : Zh G'→G:=by intro h; (repeat (first|refine zB ?_|refine zE ?_|refine zK M M M ?_|refine xE M M ?_|refine zP ?_|refine zI M ?_|refine yU M M (by omega) (by omega) M M ?_)); exact h.o) : G:=f ⟨h⟩
theorem zdE {G G' : Prop} (h : G') (f : Zh G'→G:=by intro h; (repeat (first|refine zE ?_|refine zK M M M ?_|refine zJ M ?_)); exact h.o) : G:=f ⟨h⟩
theorem zeW {G G' : Prop} (h : G') (f : Zh G'→G:=by intro h; (repeat (first|refine zF ?_|refine zB ?_|refine zE ?_|refine zK M M M ?_|refine zY M M M M M ?_|refine yM M M M M M ?_|refine zP ?_|refine zI M ?_|refine yL (vs:=[_,_,_]) (cells:=[_,_,_,_,_,_,_,_,_,_,_,_,_,_,_,_,_]) M M M M ?_)); exact h.o) : G:=f ⟨h⟩
theorem coPromise_spec (w0:World) (b:Nat) (k:Coo) (m:Msg) (ve vd:Value) (S:Hp) (H:uW w0 b k S) (ha0:0≤k.acc∧k.acc≤7) (hbd0:((jU k.promised m.part).getD []).length≤1000000) :
  yO Tryz.prog w0 117 [.pointer (some ⟨b,0,none⟩),.agg (xI m ve vd).toArray] S (fun r h'=>∃ h S2,OwL w0 0 (bF k m).2 r h∧uW w0 b (bF k m).1 S2∧S2+h=h'):=by
 have H0:=H
 obtain ⟨vp,pm,pp,ab,cb,h1,h2,h3,h4,h5,hp,ha,hc,hm,hq,rfl⟩:=H.out
 clear H
 obtain ⟨me,txn,parts,acc,l1,chosen,st,num,l2,l3,top⟩:=k
 simp only at ha0 hbd0 hp ha hc hm hq H0 ⊢
 obtain ⟨na,rfl⟩:=Int.eq_ofNat_of_zero_le ha0.1
 have nil1:∀ {Z:Hp},(bF ⟨me,txn,parts,na,l1,chosen,st,num,l2,l3,top⟩ m)=(⟨me,txn,parts,na,l1,chosen,st,num,l2,l3,top⟩,[])→uW w0 b ⟨me,txn,parts,na,l1,chosen,st,num,l2,l3,top⟩ Z →
   ∃ h S2,OwL w0 0 (bF ⟨me,txn,parts,na,l1,chosen,st,num,l2,l3,top⟩ m).2 (.slice none 0 0) h∧uW w0 b (bF ⟨me,txn,parts,na,l1,chosen,st,num,l2,l3,top⟩ m).1 S2∧S2+h=Z :=
  fun {Z} e hZ=>⟨0,Z,by rw [e]; exact OwL.nil _ _,by rw [e]; exact hZ,yA _⟩
 refine zN Tryz.func117 M Tryz.ntmps117 Tryz.results117 M fun fr=>?_
 repeat (first|refine zF ?_|refine zB ?_|refine zE ?_|refine zK M M M ?_|refine xN M (c:=[_,_,_,_,_,_,_,_,_,_,_,_,_,_,_,_,_]) M M M (fun _=>?_))
 rename_i b1
 cases st
 ·refine yB [21] [0,1,2,3,4,5,6,7,8,9,10,11,12,13,14,15,16,17,18,19,20,21,22,23] (by kernel_rfl) M (by kernel_rfl) (by kernel_rfl) ?_
  repeat (first|refine yI ?_|refine yH M M M M M ?_|refine yD M M M M (zZ M M M) ?_|refine yQ M M M M (yE M) (zG M (zS M)) ?_|refine wI M M M M ?_|refine W_not M M M M ?_)
  refine zaB ?_
  exact ⟨[_],_,_,⟨rfl,trivial⟩,nil1 (by unfold bF; rw [if_pos (.inl M)]) H0,yJ.out⟩
 obtain ⟨pb,rfl,va,h4a,h4b,hA1,hA2,rfl⟩:=hm
 obtain ⟨qb,rfl,hQ⟩:=hq
 refine yB [21] [0,1,2,3,4,5,6,7,8,9,10,11,12,13,14,15,16,17,18,19,20,21,22,23] (by kernel_rfl) M (by kernel_rfl) (by kernel_rfl) ?_
 refine zaF ?_
 refine jY M M M M (xZ M M) (fun n1=>?_) (fun n1=>?_)
 ·refine zbY ?_
  refine zaB ?_
  exact ⟨[_],_,_,⟨rfl,trivial⟩,nil1 (by unfold bF; rw [if_pos (.inr (.inl n1))]) H0,yJ.out⟩
 refine zaF ?_
 refine xS M M M M (bK (k:=m.part) M M hQ) (xF.all _) ?_
 rintro _ _ ⟨rfl,rfl⟩
 refine ⟨zka,?_⟩
 rw [mapI_vI]
 skip
 refine jY M M M M (kB M M) (fun n2=>?_) (fun n2=>?_)
 ·refine zaD ?_
  refine zaB ?_
  exact ⟨[_],_,_,⟨rfl,trivial⟩,nil1 (by unfold bF; rw [if_pos (.inr (.inr n2))]) H0,yJ.out⟩
 refine zaD ?_
 repeat (first|refine zF ?_|refine zP ?_|refine zI M ?_)
 have hgo:¬ ((true=false)∨m.ballot≠num∨0<dW l3 m.part):=by
  rintro (h|h|h)
  ·cases h
  ·exact n1 h
  ·exact n2 h
 obtain ⟨v,hx,hR,hgv,how,rfl,hup⟩:∃ (v:Value) (hx hR:Hp),(jU va m.part).getD (.slice none 0 0)=v∧OwL w0 0 ((jU l2 m.part).getD []) v hx∧h4b=hx+hR ∧
   ∀ {y:List Prm} {u:Value} {h3:Hp},OwL w0 0 y u h3→gP (fun x v h=>OwL w0 0 x v h) (wC l2 m.part y) (wC va m.part u) (h3+hR):=by
  rcases hg:jU l2 m.part with _|x
  ·exact ⟨.slice none 0 0,0,h4b,by rw [gP.none hA2 hg]; rfl,OwL.nil _ _,(qW _).symm,fun {y u h3} hy=>gP.new hA2 hg hy⟩
  ·obtain ⟨v,q1,q2,e1,e2,e3,e4⟩:=gP.some hA2 hg
   exact ⟨v,q1,q2,by rw [e1]; rfl,e2,e3,fun {y u h3} hy=>e4 hy⟩
 refine yB [6] [0,1,2,3,4,5,6,7] (by kernel_rfl) M (by kernel_rfl) (by kernel_rfl) ?_
 refine zaF ?_
 refine xS M M M M (bK (k:=m.part) M M hA1) (xF.all _) ?_
 rintro _ _ ⟨rfl,rfl⟩
 refine ⟨zka,?_⟩
 rw [hgv]
 clear hgv
 generalize hl0:(jU l2 m.part).getD []=l at *
 obtain ⟨av,cv,rfl⟩:=how.shape
 refine zaD ?_
 repeat (first|refine zF ?_|refine zB ?_|refine zK M M M ?_|refine uI M M M ?_)
 have hcf:=containsFuncPrm_spec w0 (hx+pt b1 (.cells (xI m ve vd).toArray 55 (0,0))) (.slice av l.length cv) l 205 [.pointer (some ⟨b1,0,none⟩)] (fun p=>decide (p.src=m.src)) (how.rd (X:=0)) (by omega) (fun Y x e hx he=>by
  obtain rfl:=he
  exact promise1_spec w0 _ x m ve vd b1 jI)
 refine zX M M (zQ M M M) hcf ?_
 rintro _ _ ⟨rfl,rfl⟩
 cases hany:l.any fun p=>decide (p.src=m.src)
 rotate_left
 ·refine zaB ?_
  exact ⟨[_],_,_,⟨rfl,trivial⟩,nil1 (by unfold bF; rw [if_neg hgo]; simp only; rw [hl0,if_pos hany]) H0,yJ.out⟩
 repeat (first|refine zF ?_|refine zB ?_|refine zE ?_|refine zK M M M ?_|refine zY M M M M M ?_|refine yM M M M M M ?_|refine zP ?_|refine zI M ?_|refine yL (vs:=[_,_,_]) (cells:=[_,_,_]) M M M M ?_|refine vM (vs:=[_]) (cells:=[_,_,_]) M M M M M M (fun _=>?_))
 have hnew:Rep.rd w0 0 (⟨m.src,m.index,m.value⟩:Prm) [.int .i64 m.src,.int .i64 m.index,.int .i64 m.value]:=rfl
 refine kF M M (xR (X:=0) (h:=hx) M M how (wQ M) (kU.one hnew) M M M M M (by rw [List.length_singleton]; omega)) ?_
 rintro v5 _ ⟨h6,ho6,rfl⟩
 have hlen:(l++[(⟨m.src,m.index,m.value⟩:Prm)]).length≤1000001:=by rw [List.length_append,List.length_singleton]; omega
 generalize hll:l++[(⟨m.src,m.index,m.value⟩:Prm)]=ll at *
 obtain ⟨a6,c6,rfl⟩:=ho6.shape
 repeat (first|refine zF ?_|refine zE ?_|refine zK M M M ?_)
 refine yB [7] [0,1,2,3,4,5,6,7] (by kernel_rfl) M (by kernel_rfl) (by kernel_rfl) ?_
 refine zaF ?_
 refine xS M M M M (ev_mapSet (k:=m.part) M M M hA1) (xF.all _) ?_
 rintro _ _ ⟨h7,hA3,rfl⟩
 refine ⟨zka,?_⟩
 have hAs:=hup ho6
 repeat (refine yI ?_)
 refine zaP ?_
 refine yG M M (pv_mul M M (by omega) (by omega)) ?_
 refine zaN ?_
 have hpc:bF ⟨me,txn,parts,na,l1,chosen,true,num,l2,l3,top⟩ m=if 2*(ll.length:Int)≤na then (⟨me,txn,parts,na,l1,chosen,true,num,wC l2 m.part ll,l3,top⟩,[]) else
   (⟨me,txn,parts,na,l1,chosen,true,num,wC l2 m.part ll,wC l3 m.part 1,top⟩,allF me txn num (msg0 10 m.part (propV ll)) na):=by
  unfold bF
  rw [if_neg hgo]
  simp only
  rw [hl0,if_neg (by rw [hany]; simp),hll]
  split<;>rfl
 rw [hpc]
 refine yF M M (dD M M) (fun n3=>?_) (fun n3=>?_)
 ·rw [if_pos n3]
  refine zaB ?_
  have hK:uW w0 b ⟨me,txn,parts,na,l1,chosen,true,num,wC l2 m.part ll,l3,top⟩ (cooC b me txn vp na (.map (some ab)) (.map (some cb)) (.bool true) num (.map (some pb)) (.map (some qb)) top+(h1+(h2+(h3+(h7+(h6+hR)+h5))))) :=
   ⟨⟨vp,.map (some pb),.map (some qb),ab,cb,h1,h2,h3,_,h5,hp,ha,hc,⟨pb,rfl,_,h7,h6+hR,hA3,hAs,rfl⟩,⟨qb,rfl,hQ⟩,rfl⟩⟩
  exact ⟨[_],_,_,⟨rfl,trivial⟩,⟨0,_,OwL.nil _ _,hK,yA _⟩,yJ.out⟩
 rw [if_neg n3]
 refine zbP ?_
 refine yB [6] [0,1,2,3,4,5,6] (by kernel_rfl) M (by kernel_rfl) (by kernel_rfl) ?_
 refine zaF ?_
 refine xS M M M M (ev_mapSet (k:=m.part) M M M hQ) (xF.all _) ?_
 rintro _ _ ⟨h8,hQ3,rfl⟩
 refine ⟨zka,?_⟩
 rw [updA_vI] at hQ3
 repeat (refine yI ?_)
 refine zaS ?_
 have hK:uW w0 b ⟨me,txn,parts,na,l1,chosen,true,num,wC l2 m.part ll,wC l3 m.part 1,top⟩ (cooC b me txn vp na (.map (some ab)) (.map (some cb)) (.bool true) num (.map (some pb)) (.map (some qb)) top+(h1+(h2+(h3+(h7+(h6+hR)+h8))))) :=
  ⟨⟨vp,.map (some pb),.map (some qb),ab,cb,h1,h2,h3,_,h8,hp,ha,hc,⟨pb,rfl,_,h7,h6+hR,hA3,hAs,rfl⟩,⟨qb,rfl,hQ3⟩,rfl⟩⟩
 have hrl:RdL w0 h6 (.slice a6 ll.length c6) ll:=ho6.rdh
 refine yN ll.length (fun i g L=>∃ (v a:Int) (R:Hp),g=[(0,.pointer (some ⟨b,0,none⟩)),(3,.pointer (some ⟨b1,0,none⟩)),(6,.int .i64 v),(7,.int .i64 a),(75,.slice a6 ll.length c6),(76,.int .i64 ll.length),(77,.int .i64 i)]∧bestV ll (0,0)=bestV (ll.drop i) (v,a) ∧
  L=cooC b me txn vp na (.map (some ab)) (.map (some cb)) (.bool true) num (.map (some pb)) (.map (some qb)) top+(h1+(h2+(h3+(h7+(h6+hR)+h8))))+pt b1 (.cells (xI m ve vd).toArray 55 (0,0))+fr+R) _
  ⟨0,0,_,rfl,rfl,yJ.out⟩ zsb ?_
 rintro i g L hi ⟨v,a,R,rfl,hv,rfl⟩
 refine zaH ?_
 refine yF M M (yS M M) (fun n4=>?_) (fun n4=>?_)
 ·have hix:i<ll.length:=by omega
  obtain ⟨bq,oq,rfl,e,rfl,hat⟩:=hrl.at hix
  rw [List.drop_eq_getElem_cons hix] at hv
  simp only [bestV] at hv
  generalize ll[i]=p at hat hv
  have tk:(p.value=1∨p.value=2)→(v=0∨a<p.index)→bestV ll (0,0)=bestV (ll.drop (i+1)) (p.value,p.index):=fun c1 c2=>by rw [hv,if_pos ⟨c1,c2⟩]
  have ntk:¬ ((p.value=1∨p.value=2)∧(v=0∨a<p.index))→bestV ll (0,0)=bestV (ll.drop (i+1)) (v,a):=fun c=>by rw [hv,if_neg c]
  repeat (first|refine zF ?_|refine zR ?_|refine zB ?_|refine zE ?_|refine zY M M M M M ?_|refine yM M M M M M ?_|refine zP ?_|refine zJ M ?_|refine kC M M (by omega) M M ?_|refine vU M (by assumption) M M M M ?_|refine yY M (vs:=[_,_,_]) M M M M (c':=[_,_,_]) M M ?_|refine xK (c:=[_,_,_]) M M M (fun _=>?_))
  refine yF M M (yK M M) (fun m1=>?_) (fun m1=>?_)
  ·repeat (first|refine zK M M M ?_|refine xE M M ?_)
   refine yF M M (yK M M) (fun m2=>?_) (fun m2=>?_)
   ·repeat (first|refine zE ?_|refine zK M M M ?_|refine xE M M ?_|refine zJ M ?_)
    refine yB [] [0,1,2,3,4,5] (by kernel_rfl) M (by kernel_rfl) (by kernel_rfl) ?_
    refine zcR ?_
    refine zaI ?_
    exact ⟨hix,_,zsb,p.value,p.index,_,rfl,tk (.inl m1) (.inl m2),yJ.out⟩
   ·refine zaN ?_
    refine yF M M (kB M M) (fun m3=>?_) (fun m3=>?_)
    ·refine zdE ?_
     refine yB [] [0,1,2,3,4,5] (by kernel_rfl) M (by kernel_rfl) (by kernel_rfl) ?_
     refine zcR ?_
     refine zaI ?_
     exact ⟨hix,_,zsb,p.value,p.index,_,rfl,tk (.inl m1) (.inr m3),yJ.out⟩
    ·refine zaJ ?_
     exact ⟨hix,_,zsb,v,a,_,rfl,ntk (fun c=>c.2.elim m2 m3),yJ.out⟩
  ·refine zaN ?_
   refine yF M M (yK M M) (fun m2=>?_) (fun m2=>?_)
   ·repeat (refine zK M M M ?_)
    refine yF M M (yK M M) (fun m3=>?_) (fun m3=>?_)
    ·repeat (first|refine zE ?_|refine zK M M M ?_|refine xE M M ?_|refine zJ M ?_)
     refine yB [] [0,1,2,3,4,5] (by kernel_rfl) M (by kernel_rfl) (by kernel_rfl) ?_
     refine zcR ?_
     refine zaI ?_
     exact ⟨hix,_,zsb,p.value,p.index,_,rfl,tk (.inr m2) (.inl m3),yJ.out⟩
    ·refine zaN ?_
     refine yF M M (kB M M) (fun m4=>?_) (fun m4=>?_)
     ·refine zdE ?_
      refine yB [] [0,1,2,3,4,5] (by kernel_rfl) M (by kernel_rfl) (by kernel_rfl) ?_
      refine zcR ?_
      refine zaI ?_
      exact ⟨hix,_,zsb,p.value,p.index,_,rfl,tk (.inr m2) (.inr m4),yJ.out⟩
     ·refine zaJ ?_
      exact ⟨hix,_,zsb,v,a,_,rfl,ntk (fun c=>c.2.elim m3 m4),yJ.out⟩
   ·refine zcU ?_
    exact ⟨hix,_,zsb,v,a,_,rfl,ntk (fun c=>c.1.elim m1 m2),yJ.out⟩
 ·obtain rfl:i=ll.length:=by omega
  rw [List.drop_length] at hv
  simp only [bestV] at hv
  unfold propV
  rw [hv]
  simp only
  refine zbB ?_
  refine yF M M (yK M M) (fun m1=>?_) (fun m1=>?_)
  ·rw [if_pos m1]
   repeat (first|refine zF ?_|refine zB ?_|refine zE ?_|refine zK M M M ?_|refine zY M M M M M ?_|refine yM M M M M M ?_|refine zJ M ?_|refine yL (vs:=[_,_,_]) (cells:=[_,_,_,_,_,_,_,_,_,_,_,_,_,_,_,_,_]) M M M M ?_)
   refine zX M M (zQ M M M) (all_spec w0 b me txn vp na (.map (some ab)) (.map (some cb)) (.bool true) num (.map (some pb)) (.map (some qb)) top (msg0 10 m.part 2) M M (by omega)) ?_
   rintro vm _ ⟨ho,hoo,rfl⟩
   refine zaE ?_
   exact ⟨[_],_,_,⟨rfl,trivial⟩,⟨ho,_,hoo,hK,rfl⟩,yJ.out⟩
  ·rw [if_neg m1]
   refine zeW ?_
   refine zX M M (zQ M M M) (all_spec w0 b me txn vp na (.map (some ab)) (.map (some cb)) (.bool true) num (.map (some pb)) (.map (some qb)) top (msg0 10 m.part v) M M (by omega)) ?_
   rintro vm _ ⟨ho,hoo,rfl⟩
   refine zaE ?_
   exact ⟨[_],_,_,⟨rfl,trivial⟩,⟨ho,_,hoo,hK,rfl⟩,yJ.out⟩
theorem zeX {G G' : Prop} (h : G') (f : Zh G'→G:=by intro h; (repeat (first|refine zB ?_|refine zE ?_|refine zK M M M ?_|refine zJ M ?_|refine xJ M (vs:=[_,_,_,_,_,_,_,_,_,_,_,_,_,_,_,_,_]) M M M M M ?_)); exact h.o) : G:=f ⟨h⟩
theorem coStep_spec (w0:World) (b:Nat) (k:Coo) (m:Msg) (ve vd:Value) (S:Hp) (H:uW w0 b k S) (ha0:0≤k.acc∧k.acc≤7) (hpl:k.parts.length≤1000000) (hb1:((jU k.promised m.part).getD []).length≤1000000) (hb2:((jU k.accepted (m.part,m.ballot,m.value)).getD []).length≤1000000) :
  yO Tryz.prog w0 56 [.pointer (some ⟨b,0,none⟩),.agg (xI m ve vd).toArray] S (fun r h'=>∃ h S2,OwL w0 0 (kX k m).2 r h∧uW w0 b (kX k m).1 S2∧S2+h=h'):=by
 have hacc:=coAccept_spec w0 b k m ve vd S H hb2
 have hprm:=coPromise_spec w0 b k m ve vd S H ha0 hb1
 have H0:=H
 obtain ⟨vp,pm,pp,ab,cb,h1,h2,h3,h4,h5,hp,ha,hc,hm,hq,rfl⟩:=H.out
 clear H
 obtain ⟨ap,cp,rfl⟩:=hp.shape
 have hrp:uA w0 h1 1 (.slice ap k.parts.length cp) (bN k.parts):=rdL_ints.1 hp.rdh
 have nil1:∀ {Z:Hp},kX k m=(k,[])→uW w0 b k Z→∃ h S2,OwL w0 0 (kX k m).2 (.slice none 0 0) h∧uW w0 b (kX k m).1 S2∧S2+h=Z :=
  fun {Z} e hZ=>⟨0,Z,by rw [e]; exact OwL.nil _ _,by rw [e]; exact hZ,yA _⟩
 refine zN Tryz.func56 M Tryz.ntmps56 Tryz.results56 M fun fr=>?_
 repeat (first|refine zF ?_|refine zB ?_|refine zE ?_|refine zK M M M ?_|refine xN M (c:=[_,_,_,_,_,_,_,_,_,_,_,_,_,_,_,_,_]) M M M (fun _=>?_))
 rename_i b1
 refine yB [28] [0,1,2,3,4,5,6,7,8,9,10,11,12,13,14,15,16,17,18,19,20,21,22,23,24,25,26,27,28,29,30] (by kernel_rfl) M (by kernel_rfl) (by kernel_rfl) ?_
 refine zaF ?_
 refine jY M M M M (xZ M M) (fun n1=>?_) (fun n1=>?_)
 ·refine zbY ?_
  refine zaB ?_
  exact ⟨[_],_,_,⟨rfl,trivial⟩,nil1 (by unfold kX; rw [if_pos (.inl n1)]) H0,yJ.out⟩
 refine zaF ?_
 refine jY M M M M (yS M M) (fun n2=>?_) (fun n2=>?_)
 ·refine zbY ?_
  refine zaB ?_
  exact ⟨[_],_,_,⟨rfl,trivial⟩,nil1 (by unfold kX; rw [if_pos (.inr (.inl n2))]) H0,yJ.out⟩
 refine zaF ?_
 refine jY M M M M (kB M M) (fun n3=>?_) (fun n3=>?_)
 ·refine zbY ?_
  refine zaB ?_
  exact ⟨[_],_,_,⟨rfl,trivial⟩,nil1 (by unfold kX; rw [if_pos (.inr (.inr (.inl n3)))]) H0,yJ.out⟩
 refine zaF ?_
 refine xU M M M M (zQ M M M) (containsI_spec w0 h1 _ k.parts m.part hrp (by omega)) (xF.all _) ?_
 rintro _ _ ⟨rfl,rfl⟩
 refine ⟨zka,?_⟩
 by_cases n4:m.part∈k.parts
 rotate_left
 ·rw [decide_eq_false n4]
  refine zaD ?_
  refine zaB ?_
  exact ⟨[_],_,_,⟨rfl,trivial⟩,nil1 (by unfold kX; rw [if_pos (.inr (.inr (.inr n4)))]) H0,yJ.out⟩
 rw [decide_eq_true n4]
 refine zaD ?_
 repeat (first|refine zF ?_|refine zR ?_|refine zB ?_|refine zY M M M M M ?_|refine yM M M M M M ?_|refine zP ?_|refine zI M ?_)
 have hgo:¬ (m.txn≠k.txn∨m.src<1∨k.acc<m.src∨m.part∉k.parts):=by
  rintro (h|h|h|h)
  ·exact n1 h
  ·exact n2 h
  ·exact n3 h
  ·exact h n4
 have e0:kX k m=if m.kind≠11∧m.kind≠9 then (k,[]) else if m.ok=false then ({ k with top:=max k.top m.index },[]) else if m.kind=11 then (accC k m,[]) else bF k m:=by
  unfold kX
  rw [if_neg hgo]
 refine yF M M (xZ M M) (fun k1=>?_) (fun k1=>?_)
 ·refine zaN ?_
  refine yF M M (xZ M M) (fun k2=>?_) (fun k2=>?_)
  ·refine zbE ?_
   exact ⟨[_],_,_,⟨rfl,trivial⟩,nil1 (by rw [e0,if_pos ⟨k1,k2⟩]) H0,yJ.out⟩
  ·have e1:kX k m=if m.ok=false then ({ k with top:=max k.top m.index },[]) else bF k m:=by
    rw [e0,if_neg (fun h=>k2 h.2)]
    split
    ·rfl
    ·first|rfl|rw [if_neg k1]
   refine zbH ?_
   refine gS (t:=!m.ok) M (fun ho=>?_) (fun ho=>?_)
   ·rw [e1,if_pos (by simpa using ho)]
    skip
    refine yB [10] [0,1,2,3,4,5,6,7,8,9,10] (by kernel_rfl) M (by kernel_rfl) (by kernel_rfl) ?_
    refine zaF ?_
    refine yD M M M M (pv_max M M) ?_
    rw [show (if k.top<m.index then m.index else k.top)=max k.top m.index by split<;>omega]
    refine zaO ?_
    refine xS M M M M (kA M M M M M (c':=(_::_::_::_::_::_::_::_::_::_::_::[])) M) (.keep (.drop (by kernel_rfl) .nil)) ?_
    rintro _ _ rfl
    refine ⟨zka,?_⟩
    repeat (refine yI ?_)
    refine zbG ?_
    have hK:uW w0 b { k with top:=max k.top m.index } (cooC b k.me k.txn (.slice ap k.parts.length cp) k.acc (.map (some ab)) (.map (some cb)) (.bool k.started) k.number pm pp (max k.top m.index)+(h1+(h2+(h3+(h4+h5))))) :=
     ⟨⟨_,pm,pp,ab,cb,h1,h2,h3,h4,h5,hp,ha,hc,hm,hq,rfl⟩⟩
    exact ⟨[_],_,_,⟨rfl,trivial⟩,⟨0,_,OwL.nil _ _,hK,yA _⟩,yJ.out⟩
   ·rw [e1,if_neg (by simpa using ho)]
    refine zbT ?_
    refine yP M M (yK M M) k1 ?_
    refine zcI ?_
    refine zX M M (zQ M M M) hprm ?_
    rintro vm _ ⟨ho2,S2,hoo,hK,rfl⟩
    refine zaE ?_
    exact ⟨[_],_,_,⟨rfl,trivial⟩,⟨ho2,S2,hoo,hK,rfl⟩,yJ.out⟩
 ·have e1:kX k m=if m.ok=false then ({ k with top:=max k.top m.index },[]) else (accC k m,[]):=by
   rw [e0,if_neg (fun h=>k1 h.1)]
   split
   ·rfl
   ·first|rfl|rw [if_pos (by simpa using k1)]
  refine zeD ?_
  refine gS (t:=!m.ok) M (fun ho=>?_) (fun ho=>?_)
  ·rw [e1,if_pos (by simpa using ho)]
   skip
   refine yB [10] [0,1,2,3,4,5,6,7,8,9,10] (by kernel_rfl) M (by kernel_rfl) (by kernel_rfl) ?_
   refine zaF ?_
   refine yD M M M M (pv_max M M) ?_
   rw [show (if k.top<m.index then m.index else k.top)=max k.top m.index by split<;>omega]
   refine zaO ?_
   refine xS M M M M (kA M M M M M (c':=(_::_::_::_::_::_::_::_::_::_::_::[])) M) (.keep (.drop (by kernel_rfl) .nil)) ?_
   rintro _ _ rfl
   refine ⟨zka,?_⟩
   repeat (refine yI ?_)
   refine zbG ?_
   have hK:uW w0 b { k with top:=max k.top m.index } (cooC b k.me k.txn (.slice ap k.parts.length cp) k.acc (.map (some ab)) (.map (some cb)) (.bool k.started) k.number pm pp (max k.top m.index)+(h1+(h2+(h3+(h4+h5))))) :=
    ⟨⟨_,pm,pp,ab,cb,h1,h2,h3,h4,h5,hp,ha,hc,hm,hq,rfl⟩⟩
   exact ⟨[_],_,_,⟨rfl,trivial⟩,⟨0,_,OwL.nil _ _,hK,yA _⟩,yJ.out⟩
  ·rw [e1,if_neg (by simpa using ho)]
   refine zbT ?_
   refine kD M M (yK M M) (by simpa using k1) ?_
   refine zeX ?_
   refine zX M M (zQ M M M) hacc ?_
   rintro vm _ ⟨rfl,S2,hK,rfl⟩
   refine zbG ?_
   exact ⟨[_],_,_,⟨rfl,trivial⟩,⟨0,S2,OwL.nil _ _,hK,yA _⟩,yJ.out⟩
set_option maxHeartbeats 4000000
theorem indexFuncDbt_spec (w0:World) (X:Hp) (v:Value) (xs:List Dbt) (k0:Nat) [hf:Fun Tryz.prog k0] (caps:List Value) (p:Dbt→Bool) (hv:RdL w0 X v xs) (hl:xs.length≤1000000000)
  (hp:∀ Y x e,x∈xs→Rep.rd w0 Y x e→yO Tryz.prog w0 k0 (.agg e.toArray::caps) X (fun r h'=>r=.bool (p x)∧X=h')) :
  yO Tryz.prog w0 158 [v,.func (.func k0) #[] caps.toArray] X (fun r h'=>r=.int .i64 (qG p xs)∧X=h'):=by
 obtain ⟨a,c,rfl⟩:=hv.shape
 refine zN Tryz.func158 M Tryz.ntmps158 Tryz.results158 M fun fr=>?_
 refine zaS ?_
 refine yN xs.length (fun k g L=>∃ R:Hp,g=[(0,.slice a xs.length c),(1,.func (.func k0) #[] caps.toArray),(7,.int .i64 xs.length),(8,.int .i64 k)]∧L=X+fr+R∧∀ x∈xs.take k,p x=false) _ ⟨0,rfl,(yA _).symm,by simp⟩ zsb ?_
 rintro k g L hk ⟨R,rfl,rfl,hpre⟩
 refine zaH ?_
 refine yF M M (yS M M) (fun h2=>?_) (fun h2=>?_)
 ·have hx:k<xs.length:=by omega
  obtain ⟨b2,o2,rfl,e,hr,hat⟩:=hv.at hx
  refine zcA ?_
  refine dJ M M (yE M) (zH M hat (beq_iff_eq.2 (Rep.len hr))) ?_
  refine zX M M (zQ M M (by simp<;>rfl)) (hp X xs[k] e (List.getElem_mem hx) hr) ?_
  rintro _ _ ⟨rfl,rfl⟩
  cases h3:p xs[k]
  ·refine zaJ ?_
   exact ⟨hx,_,zsb,_,rfl,yJ.out,vG hx hpre h3⟩
  ·refine zaB ?_
   exact ⟨[_],X,_,⟨rfl,trivial⟩,⟨by rw [dM hx h3 hpre]; rfl,rfl⟩,yJ.out⟩
 ·refine zaK ?_
  rw [List.take_of_length_le (by omega)] at hpre
  exact ⟨[_],X,_,⟨rfl,trivial⟩,⟨by rw [qV hpre]; rfl,rfl⟩,yJ.out⟩
theorem deleteFuncDbt_spec (w0:World) (X:Hp) (xs:List Dbt) (v:Value) (h:Hp) (k0:Nat) [hf:Fun Tryz.prog k0] (caps:List Value) (p:Dbt→Bool) (hr:OwL w0 X xs v h) (hl:xs.length≤1000000000)
  (hp:∀ Y x e,x∈xs→Rep.rd w0 Y x e→yO Tryz.prog w0 k0 (.agg e.toArray::caps) X (fun r h'=>r=.bool (p x)∧X=h')) :
  yO Tryz.prog w0 124 [v,.func (.func k0) #[] caps.toArray] (X+h) (fun r h'=>∃ h2,OwL w0 X (xs.filter fun x=>!p x) r h2∧X+h2=h'):=by
 have hif:=indexFuncDbt_spec w0 (X+h) v xs k0 caps p hr.rd0 hl (fun Y x e hx he=>yO.frameL M (hp Y x e hx he))
 obtain ⟨es,h1,h2⟩:=id hr
 obtain ⟨a,c,rfl⟩:=hr.shape
 have hlen:=h2.length
 refine zN Tryz.func124 M Tryz.ntmps124 Tryz.results124 M fun fr=>?_
 refine zaC ?_
 refine zX M M (zQ M M M) hif ?_
 rintro _ _ ⟨rfl,rfl⟩
 refine zaC ?_
 rcases uF p xs with ⟨hi,hall⟩|⟨i0,hi0,hi,hpi,hall⟩
 ·rw [hi]
  refine kD M M (yK M M) M ?_
  refine zaB ?_
  exact ⟨[_],X+h,_,⟨rfl,trivial⟩,⟨h,by rw [List.filter_eq_self.2 (fun x hx=>by rw [hall x hx]; rfl)]; exact hr,rfl⟩,yJ.out⟩
 ·rw [hi]
  refine yP M M (yK M M) (by omega) ?_
  refine zeP ?_
  obtain ⟨b,cap,spare,e1,rfl,hes,hcap,hmax,hsp⟩:=h1.nonempty (by intro e; subst e; simp at hlen; omega)
  simp only [Value.slice.injEq] at e1
  obtain ⟨rfl,-,rfl⟩:=e1
  rw [hlen] at hcap hsp
  change spare.length=(c - xs.length)*3 at hsp
  have hei0:i0<es.length:=by omega
  refine gR (fun m g L=>∃ (i j:Nat) (fs ms:List (List Value)) (R:Hp),fs.length=i∧i+ms.length=j∧i<j∧j≤xs.length∧m=xs.length - j ∧
    g=[(0,.slice (some ⟨b,0,none⟩) xs.length c),(1,.func (.func k0) #[] caps.toArray),(5,.int .i64 i),(6,.int .i64 j)] ∧
    kU (Rep.rd w0 X) ((xs.take j).filter fun x=>!p x) fs∧(∀ e∈ms,e.length=3) ∧
    L=X+pt b (.cells ((fs++(ms++es.drop j)).flatten++spare).toArray 195 (0,0))+fr+R) _ _
   ⟨i0,i0+1,es.take i0,[es[i0]],0,by rw [List.length_take]; omega,by simp,by omega,by omega,rfl,rfl,?_,?_,?_⟩ zsb ?_
  ·rw [List.take_succ_eq_append_getElem hi0,List.filter_append,List.filter_cons,hpi,List.filter_nil]
   simp only [Bool.not_true,Bool.false_eq_true,if_false,List.append_nil]
   rw [List.filter_eq_self.2 (fun x hx=>by rw [hall x hx]; rfl)]
   exact h2.take i0
  ·intro e he
   rw [List.mem_singleton] at he; subst he
   exact hes _ (List.getElem_mem hei0)
  ·rw [show es.take i0++([es[i0]]++es.drop (i0+1))=es by rw [List.singleton_append,← List.drop_eq_getElem_cons hei0,List.take_append_drop],yA]
   rfl
  rintro m g L ⟨i,j,fs,ms,R,rfl,hms,hij,hj,rfl,rfl,hfs,hmz,rfl⟩
  have hfl:∀ e∈fs,e.length=3:=hfs.lens
  have hcur:∀ e∈fs++(ms++es.drop j),e.length=3:=by
   intro e he
   rcases List.mem_append.1 he with he|he
   ·exact hfl e he
   ·rcases List.mem_append.1 he with he|he
    ·exact hmz e he
    ·exact hes e (List.mem_of_mem_drop he)
  refine zaP ?_
  refine yF M M (yS M M) (fun n2=>?_) (fun n2=>?_)
  ·have hx:j<xs.length:=by omega
   obtain ⟨e,hej,hre⟩:=h2.get hx
   have hcj:(fs++(ms++es.drop j))[j]?=some e:=by
    rw [List.getElem?_append_right (by omega),List.getElem?_append_right (by omega),List.getElem?_drop,← hej]
    congr 1; omega
   have hat:At w0 _ b (0+j*3) e:=at_row (spare:=spare) (E:=195) (fz:=(0,0)) hcur hcj
   have hd:es.drop j=e::es.drop (j+1):=by
    have:j<es.length:=by omega
    rw [List.drop_eq_getElem_cons this]
    rw [List.getElem?_eq_getElem this] at hej
    rw [Option.some.inj hej]
   have htk:(xs.take (j+1)).filter (fun x=>!p x)=(xs.take j).filter (fun x=>!p x)++(if p xs[j]=true then [] else [xs[j]]):=by
    rw [List.take_succ_eq_append_getElem hx,List.filter_append]
    congr 1
    by_cases h:p xs[j]=true<;>simp [h]
   have hel:=Rep.len hre
   obtain ⟨av,cv,av2,cv2,rfl,hvd,hvd2⟩:=id hre
   repeat (first|refine zF ?_|refine zR ?_|refine zB ?_|refine zE ?_|refine zK M M M ?_|refine zP ?_|refine zJ M ?_|refine kC M M (by omega) M M ?_|refine vU M (by assumption) M M M M ?_|refine xJ M (vs:=[_,_,_]) M M M M M ?_|refine yY M (vs:=[_,_,_]) M M M M (c':=[_,_,_]) M M ?_|refine xK (c:=[_,_,_]) M M M (fun _=>?_))
   refine zX M M (zQ M M (by simp<;>rfl)) (hp X xs[j] _ (List.getElem_mem hx) hre) ?_
   rintro _ _ ⟨rfl,rfl⟩
   cases h3:p xs[j]
   ·rw [if_neg (by rw [h3]; simp)] at htk
    obtain ⟨r0,rs,hr0,hrl,ms',hms',hml⟩:∃ r0 rs,ms++es.drop j=r0::rs∧r0.length=3∧∃ ms',rs=ms'++es.drop (j+1)∧ms'.length=ms.length:=by
     cases ms with
     | nil=>exact ⟨_,_,hd,hel,[],rfl,rfl⟩
     | cons m0 ms1=>exact ⟨m0,ms1++es.drop j,rfl,hmz m0 (by simp),ms1++(es.drop j).take 1,by rw [hd]; simp,by rw [hd]; simp⟩
    have hmz':∀ e∈ms',e.length=3:=by
     intro e' he'
     exact hcur e' (List.mem_append_right _ (by rw [hr0,hms']; exact List.mem_cons_of_mem _ (List.mem_append_left _ he')))
    rw [hr0]
    repeat (first|refine zF ?_|refine zB ?_|refine zE ?_|refine zK M M M ?_|refine zJ M ?_|refine kC M M (by omega) M M ?_|refine xJ M (vs:=[_,_,_]) M M M M M ?_)
    refine kF M M (wH (vs:=[_,_,_]) M M M M (c:=(fs++r0::rs).flatten++spare) (by simp only [List.flatten_append,List.length_append,jL hfl,List.flatten_cons,hrl]; simp; omega) (c':=(fs++[[_,_,_]]++rs).flatten++spare) (splice_row hfl hrl M)) ?_
    rintro _ _ rfl
    refine zaI ?_
    exact ⟨xs.length - (j+1),_,by omega,zsb,fs.length+1,j+1,fs++[_],ms',_,by simp,by omega,by omega,by omega,rfl,rfl,by rw [htk]; exact hfs.append (kU.one hre),hmz',by rw [← hms']; exact yJ.out⟩
   ·rw [if_pos h3,List.append_nil] at htk
    refine zaJ ?_
    refine ⟨xs.length - (j+1),_,by omega,zsb,fs.length,j+1,fs,ms++[_],_,rfl,by simp; omega,by omega,by omega,rfl,rfl,by rw [htk]; exact hfs,?_,by rw [List.append_assoc ms,List.singleton_append,← hd]; exact yJ.out⟩
    intro e' he'
    rcases List.mem_append.1 he' with he'|he'
    ·exact hmz e' he'
    ·rw [List.mem_singleton] at he'; subst he'; exact hel
  ·obtain rfl:j=xs.length:=by omega
   rw [List.take_length] at hfs
   rw [List.drop_of_length_le (by omega),List.append_nil]
   refine zbB ?_
   refine yG M M (vP (l:=fs.length) M M (by omega)) ?_
   rw [vH (b:=b) (l:=fs.length) (cap:=c) (by omega)]
   have lf:fs.flatten.length=fs.length*3:=jL hfl
   have lm:ms.flatten.length=ms.length*3:=jL hmz
   refine kF M M (ev_clearZ M M M (by rw [List.length_append,List.flatten_append,List.length_append,lf,lm]; omega)) ?_
   rintro _ _ ⟨zs,hzs,rfl⟩
   rw [show 0+fs.length*3=fs.flatten.length by omega,List.flatten_append,List.append_assoc,splice_append ms.flatten zs (by rw [lm,hzs]; omega) spare]
   refine zaC ?_
   refine yG M M (pv_slice_h (m:=fs.length) M M (by omega)) ?_
   refine zaE ?_
   exact ⟨[_],X+pt b (.cells (fs.flatten++(zs++spare)).toArray 195 (0,0)),_,⟨rfl,trivial⟩,⟨_,⟨fs,jH (E:=195) (b:=b) hfl (by omega) hmax (by rw [List.length_append,hzs,hsp]; show _=(c - fs.length)*3; omega),hfs⟩,rfl⟩,yJ.out⟩
theorem startL_bare {k:Coo} {n:Int} {m:Msg} (h:m∈startL k n):m.entries=[]∧m.data=[]:=by
 unfold startL at h
 obtain ⟨p,_,h⟩:=List.mem_flatMap.1 h
 unfold allF at h
 obtain ⟨i,_,rfl⟩:=List.mem_map.1 h
 exact ⟨rfl,rfl⟩
theorem zbO {G G' : Prop} (h : G') (f : Zh G'→G:=by intro h; (repeat (first|refine zF ?_|refine zB ?_|refine zE ?_|refine zK M M M ?_|refine zY M M M M M ?_|refine yM M M M M M ?_|refine xD M M M (c':=(_::_::_::_::_::_::_::_::_::_::_::_::_::_::_::_::_::_::_::_::_::_::_::_::_::_::_::_::_::_::_::_::_::_::_::_::_::_::[])) M M M M ?_)); exact h.o) : G:=f ⟨h⟩
section
variable (w0:World) (X:Hp) (b tb:Nat) (c:Cl) (S:Hp) (n:Nat)
theorem starting_spec (hS:kT w0 X b tb c S) (hZ:Sz n c) (hn:n+100≤100000000) (hc:c.coord.isSome=true) :
  yO Tryz.prog w0 84 [pB b] (X+S) (fun r h'=>kP w0 X b tb (wM c) h'):=by
 obtain ⟨k,hk⟩:=Option.isSome_iff_exists.1 hc
 have hKz:=hZ.co k hk
 have htop:=hKz.top
 have hrd:=hZ.num.1
 have hid:=hZ.bd.id
 have e1:(k.top).fdiv (2 ^ (min (20:Int).toNat IntKind.i64.bits))=k.top / 1048576:=by
  rw [show min (20:Int).toNat IntKind.i64.bits=20 from rfl,Int.fdiv_eq_ediv_of_nonneg _ (by decide)]; rfl
 have e3:wM c=wW { c with started:=c.clock,round:=max c.round (k.top / 1048576)+1,coord:=some (startC k (ballotF (max c.round (k.top / 1048576)+1) c.addr)) } (startL k (ballotF (max c.round (k.top / 1048576)+1) c.addr)):=by unfold wM; rw [hk]
 rw [e3]
 clear e3
 obtain ⟨⟨vmem,vr0,vsets,vmr,vg,ve,vd,vrq,vop,vow,vw,vco,vou,van⟩,ps,hG,hE,hD,hR,hT,hK,hO,P,rfl⟩:=hS
 obtain ⟨kb,hvk,hKA⟩:∃ kb,vco=pB kb∧uW w0 kb k hK:=by have:=P.coord; rw [hk] at this; exact this
 subst hvk
 have hstart:=fun m=>coStart_spec w0 kb k m hK hKA (by have:=hKz.parts; omega) hKz.acc.1 hKz.acc.2
 have htp:yO Tryz.prog w0 166 [.pointer (some ⟨kb,0,none⟩)] hK (fun r h'=>r=.int .i64 k.top∧hK=h'):=by
  obtain ⟨vp,pm,pp,ab,cb,h1,h2,h3,h4,h5,-,-,-,-,-,hKe⟩:=hKA.out
  exact yO.frameL hKe (top_spec w0 kb k.me k.txn vp k.acc (.map (some ab)) (.map (some cb)) (.bool k.started) k.number pm pp k.top)
 refine zN Tryz.func84 M Tryz.ntmps84 Tryz.results84 M fun fr=>?_
 refine zbO ?_
 refine yB [9,15] [0,1,2,3,4,5,6,7,8,9,10,11,12,13,14,15] (by kernel_rfl) M (by kernel_rfl) (by kernel_rfl) ?_
 refine zaF ?_
 refine xU M M M M (zQ M M M) htp (xF.all _) ?_
 rintro _ _ ⟨rfl,rfl⟩
 refine ⟨zka,?_⟩
 skip
 refine yD M M M M (pv_shr M M (by omega)) ?_
 rw [e1]
 skip
 refine yD M M M M (pv_max M M) ?_
 rw [show (if c.round<k.top / 1048576 then k.top / 1048576 else c.round)=max c.round (k.top / 1048576) by split<;>omega]
 have hmr:0≤max c.round (k.top / 1048576)∧max c.round (k.top / 1048576)≤9100000000000:=by omega
 generalize max c.round (k.top / 1048576)=mr at *
 repeat (first|refine yH M M M M M ?_|refine yD M M M M (zZ M M M) ?_|refine yD M M M M (dE M M (by omega) (by omega)) ?_)
 refine xS M M M M (kA M M M M M (c':=(_::_::_::_::_::_::_::_::_::_::_::_::_::_::_::_::_::_::_::_::_::_::_::_::_::_::_::_::_::_::_::_::_::_::_::_::_::_::[])) M) (.keep (.drop (by kernel_rfl) .nil)) ?_
 rintro _ _ rfl
 refine ⟨zka,?_⟩
 repeat (refine yI ?_)
 skip
 refine yB [15,16] [0,1,2,3,4,5,6,7,8,9,10,11,12,13,14,15,16] (by kernel_rfl) M (by kernel_rfl) (by kernel_rfl) ?_
 refine zaF ?_
 refine yD M M M M (pv_shl M M (by omega)) ?_
 refine zaF ?_
 refine yD M M M M (pv_add_w M M) ?_
 rw [show IntKind.i64.wrap (IntKind.i64.wrap ((mr+1)*2 ^ (min (20:Int).toNat IntKind.i64.bits))+c.addr)=ballotF (mr+1) c.addr from rfl]
 generalize ballotF (mr+1) c.addr=bl at *
 skip
 refine xU M M M M (zQ M M M) (hstart bl) (xF.all _) ?_
 rintro vm _ ⟨ho,S2,hoo,hK2,rfl⟩
 refine ⟨zka,?_⟩
 have hll:=startL_len hKz bl
 have hbare:=fun m (hm:m∈startL k bl)=>startL_bare hm
 obtain ⟨am,cm,rfl⟩:=hoo.shape
 have P2:=P.mono (L:=X+ho) (R:=ho) M
 have hP:xT w0 (X+ho) b { c with started:=c.clock,round:=mr+1,coord:=some (startC k bl) } ⟨vmem,vr0,vsets,vmr,vg,ve,vd,vrq,vop,vow,vw,pB kb,vou,van⟩ tb ps hG hE hD hR hT S2 hO :=
  xT.mk P2.mem P2.rngs0 P2.sets P2.mr P2.guess P2.ended P2.dbts P2.reqs P2.opn P2.own P2.txn P2.waits ⟨kb,rfl,hK2⟩ P2.out P2.ansd
 have hpt:=putting_all_spec w0 (X+ho) b tb { c with started:=c.clock,round:=mr+1,coord:=some (startC k bl) } _ ps ⟨_,hG,hE,hD,hR,hT,S2,hO,hP,rfl⟩ (startL k bl) am cm (hoo.rd (X:=0) (R:=X)) (by have:=hZ.bd.out; simp only; omega) (fun m hm=>by rw [(hbare m hm).1,(hbare m hm).2]; simp)
 skip
 refine xU M M M M (zQ M M M) hpt (.drop (by kernel_rfl) (.drop (by kernel_rfl) (.drop (by kernel_rfl) .nil))) ?_
 rintro _ _ hA
 refine ⟨trivial,?_⟩
 repeat (refine yI ?_)
 skip
 exact ⟨[],_,_,trivial,hA.trans.after,yJ.out⟩
theorem resolving_spec (hS:kT w0 X b tb c S) (hZ:Sz n c) (hn:n+100≤100000000) (d:Dbt) (hok:newOk c.addr d.id d.parts c.accs=true) (a a2:Option Addr) (cp cp2:Nat) (hd:RdL w0 X (.slice a d.parts.length cp) d.parts) :
  yO Tryz.prog w0 127 [pB b,.agg [.int .i64 d.id,.slice a d.parts.length cp,.slice a2 d.groups.length cp2].toArray] (X+S) (fun r h'=>kP w0 X b tb (vJ c d) h'):=by
 have hpl:=newOk_parts hok
 have hco:newO c.addr d.id d.parts c.accs=some (newC c.addr d.id d.parts c.accs):=by unfold newO; rw [if_pos hok]
 have e0:vJ c d=wM { c with coord:=some (newC c.addr d.id d.parts c.accs),about:=d.id }:=by unfold vJ; rw [hco]
 rw [e0]
 clear e0
 have hZ2:Sz n { c with coord:=some (newC c.addr d.id d.parts c.accs),about:=d.id }:=(hZ.coos (k:=some (newC c.addr d.id d.parts c.accs)) (by rw [← hco]; exact newO_sz _ _ _ _)).free
 have hnew:=coNew_spec w0 X c.addr d.id d.parts a cp c.accs hd (by omega)
 obtain ⟨⟨vmem,vr0,vsets,vmr,vg,ve,vd,vrq,vop,vow,vw,vco,vou,van⟩,ps,hG,hE,hD,hR,hT,hK,hO,P,rfl⟩:=hS
 refine zN Tryz.func127 M Tryz.ntmps127 Tryz.results127 M fun fr=>?_
 repeat (first|refine zF ?_|refine zB ?_|refine zE ?_|refine xN M (c:=[_,_,_]) M M M (fun _=>?_))
 refine yB [14,20] [0,1,2,3,4,5,6,7,8,9,10,11,12,13,14,15,16,17,18,19,20] (by kernel_rfl) M (by kernel_rfl) (by kernel_rfl) ?_
 refine zaF ?_
 refine xU M M M M (zQ M M M) hnew (xF.all _) ?_
 rintro _ _ (⟨h,-⟩|⟨-,kb,K,rfl,hKA,rfl⟩)
 ·rw [hok] at h; cases h
 refine ⟨zka,?_⟩
 refine zaO ?_
 refine xS M M M M (kA M M M M M (c':=(_::_::_::_::_::_::_::_::_::_::_::_::_::_::_::_::_::_::_::_::_::_::_::_::_::_::_::_::_::_::_::_::_::_::_::_::_::_::[])) M) (xF.all _) ?_
 rintro _ _ rfl
 refine ⟨zka,?_⟩
 repeat (refine yI ?_)
 refine zbO ?_
 have hP:xT w0 X b { c with coord:=some (newC c.addr d.id d.parts c.accs),about:=d.id } ⟨vmem,vr0,vsets,vmr,vg,ve,vd,vrq,vop,vow,vw,pB kb,vou,van⟩ tb ps hG hE hD hR hT K hO :=
  xT.mk P.mem P.rngs0 P.sets P.mr P.guess P.ended P.dbts P.reqs P.opn P.own P.txn P.waits ⟨kb,rfl,hKA⟩ P.out P.ansd
 refine zX M M (zQ M M M) (starting_spec w0 X b tb _ _ n ⟨_,ps,hG,hE,hD,hR,hT,K,hO,hP,rfl⟩ hZ2 hn M) ?_
 rintro _ _ hA
 repeat (refine zE ?_)
 exact ⟨[],_,_,trivial,hA,yJ.out⟩
theorem doubting1_spec (d:Dbt) (a a2:Option Addr) (cp cp2 bx:Nat) (V:Raw) (h1:At w0 X bx 0 [pB b]) (h2:At w0 X b 0 (clL c V)) :
  yO Tryz.prog w0 212 [.agg [.int .i64 d.id,.slice a d.parts.length cp,.slice a2 d.groups.length cp2].toArray,pB bx] X (fun v h'=>v=.bool (decide (d.id=c.about))∧X=h'):=by
 refine zN Tryz.func212 M Tryz.ntmps212 Tryz.results212 M fun fr=>?_
 repeat (first|refine zF ?_|refine zB ?_|refine zE ?_|refine zK M M M ?_|refine xN M (c:=[_,_,_]) M M M (fun _=>?_))
 refine yB [] [0,1,2,3,4,5,6,7] (by kernel_rfl) M (by kernel_rfl) (by kernel_rfl) ?_
 repeat (first|refine yH M M M M M ?_|refine yD M M M M (zZ M M M) ?_|refine yQ M M M M (yE M) (zG M (zS M)) ?_|refine W_atf M M (by assumption) M M M M M ?_|refine W_at M M (by assumption) M M M M M ?_)
 refine yD M M M M (yK M M) ?_
 refine zaD ?_
 repeat (refine zM ?_)
 exact ⟨[_],X,_,⟨rfl,trivial⟩,⟨rfl,rfl⟩,yJ.out⟩
theorem come1_spec (d:Dbt) (a a2:Option Addr) (cp cp2 bx:Nat) (id:Int) (v1 v2:Value) (h1:At w0 X bx 0 [.int .i64 id,v1,v2]) :
  yO Tryz.prog w0 125 [.agg [.int .i64 d.id,.slice a d.parts.length cp,.slice a2 d.groups.length cp2].toArray,pB bx] X (fun v h'=>v=.bool (decide (d.id=id))∧X=h'):=by
 refine zN Tryz.func125 M Tryz.ntmps125 Tryz.results125 M fun fr=>?_
 repeat (first|refine zF ?_|refine zB ?_|refine zE ?_|refine zK M M M ?_|refine zY M M M M M ?_|refine yM M M M M M ?_|refine gO M (by assumption) M M M M ?_|refine xN M (c:=[_,_,_]) M M M (fun _=>?_))
 refine yG M M (yK M M) ?_
 refine zaE ?_
 exact ⟨[_],X,_,⟨rfl,trivial⟩,⟨rfl,rfl⟩,yJ.out⟩
theorem status1_spec (d:Dbt) (a a2:Option Addr) (cp cp2 bx:Nat) (x:Cal) (v1:Value) (h1:At w0 X bx 0 (xW x v1)) :
  yO Tryz.prog w0 159 [.agg [.int .i64 d.id,.slice a d.parts.length cp,.slice a2 d.groups.length cp2].toArray,pB bx] X (fun v h'=>v=.bool (decide (d.id=x.txn))∧X=h'):=by
 refine zN Tryz.func159 M Tryz.ntmps159 Tryz.results159 M fun fr=>?_
 repeat (first|refine zF ?_|refine zB ?_|refine zE ?_|refine zK M M M ?_|refine zY M M M M M ?_|refine yM M M M M M ?_|refine gO M (by assumption) M M M M ?_|refine xN M (c:=[_,_,_]) M M M (fun _=>?_))
 refine yG M M (yK M M) ?_
 refine zaE ?_
 exact ⟨[_],X,_,⟨rfl,trivial⟩,⟨rfl,rfl⟩,yJ.out⟩
theorem doubting_spec (hS:kT w0 X b tb c S) (hZ:Sz n c) (hn:n+100≤100000000) :
  yO Tryz.prog w0 123 [pB b] (X+S) (fun r h'=>r=.int .i64 (qG (fun d=>decide (d.id=c.about)) c.doubts)∧X+S=h'):=by
 obtain ⟨V,ps,hG,hE,hD,hR,hT,hK,hO,P,rfl⟩:=hS
 have hdl:=hZ.db.1
 have hod:=P.dbts
 refine zN Tryz.func123 M Tryz.ntmps123 Tryz.results123 M fun fr=>?_
 repeat (first|refine zF ?_|refine zB ?_|refine zE ?_|refine zK M M M ?_|refine zY M M M M M ?_|refine yM M M M M M ?_|refine xN M (c:=[_]) M M M (fun _=>?_)|refine uI M M M ?_)
 rename_i bx
 refine zX M M (zQ M M M) (indexFuncDbt_spec w0 (X+hD+(cliC b (clL c V)+pt bx (.cells [pB b].toArray 24 (0,0)))) V.dbts c.doubts 212 [pB bx] (fun d=>decide (d.id=c.about)) hod.rd (by omega) (fun Y x e hx he=>by
  obtain ⟨a1,c1,a2,c2,rfl,-,-⟩:=he
  exact doubting1_spec w0 _ b c x a1 a2 c1 c2 bx V jI jI)) ?_
 rintro _ _ ⟨rfl,rfl⟩
 refine zaE ?_
 exact ⟨[_],_,_,⟨rfl,trivial⟩,⟨rfl,rfl⟩,yJ.out⟩
end
instance repLI :Rep (List Int) where
 tid:=61
 size:=1
 rd:=fun w0 L x e=>∃ a c,e=[.slice a x.length c]∧RdL w0 L (.slice a x.length c) x
 len:=by rintro _ _ _ _ ⟨a,c,rfl,_⟩; rfl
 one:=by
  rintro _ _ _ _ ⟨a,c,rfl,h⟩ u hu
  simp only [List.mem_cons,List.not_mem_nil,or_false] at hu
  subst hu; rfl
 mono:=by rintro _ _ _ _ _ _ e ⟨a,c,rfl,h⟩; exact ⟨a,c,rfl,h.mono e⟩
structure Cfg where
 nodes:Int
 accs:Int
 clis:Int
 mem:List (List Int)
 rngs:List Rng
 sets:List Spn
abbrev dH (k:Cfg) (vm vr vs:Value):List Value:=[.int .i64 k.nodes,.int .i64 k.accs,.int .i64 k.clis,vm,vr,vs]
theorem indexFuncLI_spec (w0:World) (X:Hp) (v:Value) (xs:List (List Int)) (k0:Nat) [hf:Fun Tryz.prog k0] (caps:List Value) (p:(List Int)→Bool) (hv:RdL w0 X v xs) (hl:xs.length≤1000000000)
  (hp:∀ x e,x∈xs→Rep.rd w0 X x e→yO Tryz.prog w0 k0 (e.getD 0 undef::caps) X (fun r h'=>r=.bool (p x)∧X=h')) :
  yO Tryz.prog w0 134 [v,.func (.func k0) #[] caps.toArray] X (fun r h'=>r=.int .i64 (qG p xs)∧X=h'):=by
 obtain ⟨a,c,rfl⟩:=hv.shape
 refine zN Tryz.func134 M Tryz.ntmps134 Tryz.results134 M fun fr=>?_
 refine zaS ?_
 refine yN xs.length (fun k g L=>∃ R:Hp,g=[(0,.slice a xs.length c),(1,.func (.func k0) #[] caps.toArray),(7,.int .i64 xs.length),(8,.int .i64 k)]∧L=X+fr+R∧∀ x∈xs.take k,p x=false) _ ⟨0,rfl,(yA _).symm,by simp⟩ zsb ?_
 rintro k g L hk ⟨R,rfl,rfl,hpre⟩
 refine zaH ?_
 refine yF M M (yS M M) (fun h2=>?_) (fun h2=>?_)
 ·have hx:k<xs.length:=by omega
  obtain ⟨b2,o2,rfl,e,hre,hat⟩:=hv.at hx
  obtain ⟨al,cl,rfl,hvd⟩:=id hre
  refine zaT ?_
  refine zX M M (zQ M M (by simp<;>rfl)) (hp xs[k] _ (List.getElem_mem hx) hre) ?_
  rintro _ _ ⟨rfl,rfl⟩
  cases h3:p xs[k]
  ·refine zaJ ?_
   exact ⟨hx,_,zsb,_,rfl,yJ.out,vG hx hpre h3⟩
  ·refine zaB ?_
   exact ⟨[_],X,_,⟨rfl,trivial⟩,⟨by rw [dM hx h3 hpre]; rfl,rfl⟩,yJ.out⟩
 ·refine zaK ?_
  rw [List.take_of_length_le (by omega)] at hpre
  exact ⟨[_],X,_,⟨rfl,trivial⟩,⟨by rw [qV hpre]; rfl,rfl⟩,yJ.out⟩
theorem containsFuncLI_spec (w0:World) (X:Hp) (v:Value) (xs:List (List Int)) (k0:Nat) [hf:Fun Tryz.prog k0] (caps:List Value) (p:List Int→Bool) (hv:RdL w0 X v xs) (hl:xs.length≤1000000000)
  (hp:∀ x e,x∈xs→Rep.rd w0 X x e→yO Tryz.prog w0 k0 (e.getD 0 undef::caps) X (fun r h'=>r=.bool (p x)∧X=h')) :
  yO Tryz.prog w0 65 [v,.func (.func k0) #[] caps.toArray] X (fun r h'=>r=.bool (xs.any p)∧X=h'):=by
 have hi:=indexFuncLI_spec w0 X v xs k0 caps p hv hl hp
 obtain ⟨a,c,rfl⟩:=hv.shape
 refine zN Tryz.func65 M Tryz.ntmps65 Tryz.results65 M fun fr=>?_
 refine zaC ?_
 refine zX M M (zQ M M M) hi ?_
 rintro _ _ ⟨rfl,rfl⟩
 refine yG M M (kQ M M) ?_
 refine zaE ?_
 exact ⟨[_],X,_,⟨rfl,trivial⟩,⟨congrArg Value.bool (gI p xs),rfl⟩,yJ.out⟩
theorem containsFuncRng_spec (w0:World) (X:Hp) (v:Value) (xs:List Rng) (k0:Nat) [hf:Fun Tryz.prog k0] (caps:List Value) (p:Rng→Bool) (hv:RdL w0 X v xs) (hl:xs.length≤1000000000)
  (hp:∀ Y x e,x∈xs→Rep.rd w0 Y x e→yO Tryz.prog w0 k0 (.agg e.toArray::caps) X (fun r h'=>r=.bool (p x)∧X=h')) :
  yO Tryz.prog w0 67 [v,.func (.func k0) #[] caps.toArray] X (fun r h'=>r=.bool (xs.any p)∧X=h'):=by
 have hi:=indexFuncRng_spec w0 X v xs k0 caps p hv hl hp
 obtain ⟨a,c,rfl⟩:=hv.shape
 refine zN Tryz.func67 M Tryz.ntmps67 Tryz.results67 M fun fr=>?_
 refine zaC ?_
 refine zX M M (zQ M M M) hi ?_
 rintro _ _ ⟨rfl,rfl⟩
 refine yG M M (kQ M M) ?_
 refine zaE ?_
 exact ⟨[_],X,_,⟨rfl,trivial⟩,⟨by rw [gI]; rfl,rfl⟩,yJ.out⟩
theorem indexFuncSpn_spec (w0:World) (X:Hp) (v:Value) (xs:List Spn) (k0:Nat) [hf:Fun Tryz.prog k0] (caps:List Value) (p:Spn→Bool) (hv:RdL w0 X v xs) (hl:xs.length≤1000000000)
  (hp:∀ Y x e,x∈xs→Rep.rd w0 Y x e→yO Tryz.prog w0 k0 (.agg e.toArray::caps) X (fun r h'=>r=.bool (p x)∧X=h')) :
  yO Tryz.prog w0 137 [v,.func (.func k0) #[] caps.toArray] X (fun r h'=>r=.int .i64 (qG p xs)∧X=h'):=by
 obtain ⟨a,c,rfl⟩:=hv.shape
 refine zN Tryz.func137 M Tryz.ntmps137 Tryz.results137 M fun fr=>?_
 refine zaS ?_
 refine yN xs.length (fun k g L=>∃ R:Hp,g=[(0,.slice a xs.length c),(1,.func (.func k0) #[] caps.toArray),(7,.int .i64 xs.length),(8,.int .i64 k)]∧L=X+fr+R∧∀ x∈xs.take k,p x=false) _ ⟨0,rfl,(yA _).symm,by simp⟩ zsb ?_
 rintro k g L hk ⟨R,rfl,rfl,hpre⟩
 refine zaH ?_
 refine yF M M (yS M M) (fun h2=>?_) (fun h2=>?_)
 ·have hx:k<xs.length:=by omega
  obtain ⟨b2,o2,rfl,e,hr,hat⟩:=hv.at hx
  refine zcA ?_
  refine dJ M M (yE M) (zH M hat (beq_iff_eq.2 (Rep.len hr))) ?_
  refine zX M M (zQ M M (by simp<;>rfl)) (hp X xs[k] e (List.getElem_mem hx) hr) ?_
  rintro _ _ ⟨rfl,rfl⟩
  cases h3:p xs[k]
  ·refine zaJ ?_
   exact ⟨hx,_,zsb,_,rfl,yJ.out,vG hx hpre h3⟩
  ·refine zaB ?_
   exact ⟨[_],X,_,⟨rfl,trivial⟩,⟨by rw [dM hx h3 hpre]; rfl,rfl⟩,yJ.out⟩
 ·refine zaK ?_
  rw [List.take_of_length_le (by omega)] at hpre
  exact ⟨[_],X,_,⟨rfl,trivial⟩,⟨by rw [qV hpre]; rfl,rfl⟩,yJ.out⟩
theorem containsFuncSpn_spec (w0:World) (X:Hp) (v:Value) (xs:List Spn) (k0:Nat) [hf:Fun Tryz.prog k0] (caps:List Value) (p:Spn→Bool) (hv:RdL w0 X v xs) (hl:xs.length≤1000000000)
  (hp:∀ Y x e,x∈xs→Rep.rd w0 Y x e→yO Tryz.prog w0 k0 (.agg e.toArray::caps) X (fun r h'=>r=.bool (p x)∧X=h')) :
  yO Tryz.prog w0 68 [v,.func (.func k0) #[] caps.toArray] X (fun r h'=>r=.bool (xs.any p)∧X=h'):=by
 have hi:=indexFuncSpn_spec w0 X v xs k0 caps p hv hl hp
 obtain ⟨a,c,rfl⟩:=hv.shape
 refine zN Tryz.func68 M Tryz.ntmps68 Tryz.results68 M fun fr=>?_
 refine zaC ?_
 refine zX M M (zQ M M M) hi ?_
 rintro _ _ ⟨rfl,rfl⟩
 refine yG M M (kQ M M) ?_
 refine zaE ?_
 exact ⟨[_],X,_,⟨rfl,trivial⟩,⟨by rw [gI]; rfl,rfl⟩,yJ.out⟩
theorem cloneRngs_spec (w0:World) (X:Hp) (v:Value) (xs:List Rng) (hv:RdL w0 X v xs) (hl:xs.length≤1000000000000) :
  yO Tryz.prog w0 69 [v] X (fun r h'=>∃ h,OwL w0 X xs r h∧X+h=h'):=by
 obtain ⟨es,h1,h2⟩:=id hv
 obtain ⟨a,c,rfl⟩:=hv.shape
 refine zN Tryz.func69 M Tryz.ntmps69 Tryz.results69 M fun fr=>?_
 refine zaC ?_
 refine L_bool M M (qD M M) (fun h3=>?_) (fun h3=>?_)
 ·obtain rfl:xs=[]:=by
   cases xs with
   | nil=>rfl
   | cons x l =>
    obtain ⟨b,o,rfl,_⟩:=hv.at (i:=0) (by simp)
    simp at h3
  refine zaB ?_
  exact ⟨[_],X,_,⟨rfl,trivial⟩,⟨0,OwL.nil _ none,yA _⟩,yJ.out⟩
 ·repeat (first|refine zF ?_|refine zB ?_|refine zE ?_|refine zK M M M ?_|refine zP ?_|refine zI M ?_|refine vM (vs:=[]) (cells:=[]) M M M M M M (fun _=>?_))
  refine kF M M (xR (xs:=([]:List Rng)) (h:=0) M M (OwL.nil X _) (h1.frame) h2 M M M M M (by simp; omega)) ?_
  rintro v' _ ⟨h',hr',rfl⟩
  refine zaE ?_
  exact ⟨[_],X+h',_,⟨rfl,trivial⟩,⟨h',hr',rfl⟩,yJ.out⟩
theorem cloneSpns_spec (w0:World) (X:Hp) (v:Value) (xs:List Spn) (hv:RdL w0 X v xs) (hl:xs.length≤1000000000000) :
  yO Tryz.prog w0 30 [v] X (fun r h'=>∃ h,OwL w0 X xs r h∧X+h=h'):=by
 obtain ⟨es,h1,h2⟩:=id hv
 obtain ⟨a,c,rfl⟩:=hv.shape
 refine zN Tryz.func30 M Tryz.ntmps30 Tryz.results30 M fun fr=>?_
 refine zaC ?_
 refine L_bool M M (qD M M) (fun h3=>?_) (fun h3=>?_)
 ·obtain rfl:xs=[]:=by
   cases xs with
   | nil=>rfl
   | cons x l =>
    obtain ⟨b,o,rfl,_⟩:=hv.at (i:=0) (by simp)
    simp at h3
  refine zaB ?_
  exact ⟨[_],X,_,⟨rfl,trivial⟩,⟨0,OwL.nil _ none,yA _⟩,yJ.out⟩
 ·repeat (first|refine zF ?_|refine zB ?_|refine zE ?_|refine zK M M M ?_|refine zP ?_|refine zI M ?_|refine vM (vs:=[]) (cells:=[]) M M M M M M (fun _=>?_))
  refine kF M M (xR (xs:=([]:List Spn)) (h:=0) M M (OwL.nil X _) (h1.frame) h2 M M M M M (by simp; omega)) ?_
  rintro v' _ ⟨h',hr',rfl⟩
  refine zaE ?_
  exact ⟨[_],X+h',_,⟨rfl,trivial⟩,⟨h',hr',rfl⟩,yJ.out⟩
theorem zeY {G G' : Prop} (h : G') (f : Zh G'→G:=by intro h; (repeat (first|refine zF ?_|refine zR ?_|refine zB ?_|refine zE ?_|refine zK M M M ?_|refine zP ?_|refine zI M ?_|refine kC M M (by omega) M M ?_|refine gO M (by assumption) M M M M ?_)); exact h.o) : G:=f ⟨h⟩
theorem minI_spec (w0:World) (X:Hp) (l:List Int) (a:Option Addr) (c:Nat) (hv:RdL w0 X (.slice a l.length c) l) (hne:l≠[]) (hl:l.length≤1000000000) :
  yO Tryz.prog w0 61 [.slice a l.length c] X (fun r h'=>∃ m:Int,r=.int .i64 m∧m∈l∧(∀ x∈l,m≤x)∧X=h'):=by
 have h0:0<l.length:=List.length_pos_iff.2 hne
 obtain ⟨b0,o0,ha0,e0,he0,hat0⟩:=hv.at h0
 obtain rfl:=he0
 refine zN Tryz.func61 M Tryz.ntmps61 Tryz.results61 M fun fr=>?_
 refine zbC ?_
 refine yP M M (yS M M) (by omega) ?_
 subst ha0
 refine zeY ?_
 refine gR (fun m g L=>∃ (k:Nat) (v:Int) (R:Hp),1≤k∧k≤l.length∧m=l.length - k∧g=[(0,.slice (some ⟨b0,o0,none⟩) l.length c),(3,.int .i64 v),(4,.int .i64 k)]∧v∈l∧(∀ m∈[v],∀ x∈l.take k,m≤x)∧L=X+fr+R) _ _
  ⟨1,l[0],0,Nat.le_refl _,h0,rfl,rfl,List.getElem_mem h0,?_,by rw [yA]⟩ zsb ?_
 ·intro m hm x hx
  rw [List.mem_singleton] at hm
  have:l.take 1=[l[0]]:=by rw [List.take_succ_eq_append_getElem h0]; rfl
  rw [this,List.mem_singleton] at hx
  rw [hm,hx]; exact Int.le_refl _
 rintro m g L ⟨k,v,R,hk1,hk,rfl,rfl,hv1,hv2,rfl⟩
 refine zaP ?_
 refine yF M M (yS M M) (fun n1=>?_) (fun n1=>?_)
 ·have hx:k<l.length:=by omega
  obtain ⟨b1,o1,ha1,e1,he1,hat⟩:=hv.at hx
  obtain rfl:=he1
  simp only [Option.some.injEq,Addr.mk.injEq] at ha1
  obtain ⟨rfl,rfl,-⟩:=ha1
  refine zaT ?_
  refine yG M M (pv_min M M) ?_
  refine zaI ?_
  refine ⟨l.length - (k+1),_,by omega,zsb,k+1,_,_,by omega,by omega,rfl,rfl,?_,?_,yJ.out⟩
  ·split
   ·exact List.getElem_mem hx
   ·exact hv1
  ·intro m hm x hxx
   rw [List.mem_singleton] at hm
   subst hm
   rw [List.take_succ_eq_append_getElem hx,List.mem_append,List.mem_singleton] at hxx
   rcases hxx with hxx|rfl
   ·have:=hv2 v (by simp) x hxx
    split<;>omega
   ·split<;>omega
 ·obtain rfl:k=l.length:=by omega
  refine zaK ?_
  exact ⟨[_],X,_,⟨rfl,trivial⟩,⟨v,rfl,hv1,fun x hx=>hv2 v (by simp) x (by rw [List.take_length]; exact hx),rfl⟩,yJ.out⟩
theorem maxI_spec (w0:World) (X:Hp) (l:List Int) (a:Option Addr) (c:Nat) (hv:RdL w0 X (.slice a l.length c) l) (hne:l≠[]) (hl:l.length≤1000000000) :
  yO Tryz.prog w0 62 [.slice a l.length c] X (fun r h'=>∃ m:Int,r=.int .i64 m∧m∈l∧(∀ x∈l,x≤m)∧X=h'):=by
 have h0:0<l.length:=List.length_pos_iff.2 hne
 obtain ⟨b0,o0,ha0,e0,he0,hat0⟩:=hv.at h0
 obtain rfl:=he0
 refine zN Tryz.func62 M Tryz.ntmps62 Tryz.results62 M fun fr=>?_
 refine zbC ?_
 refine yP M M (yS M M) (by omega) ?_
 subst ha0
 refine zeY ?_
 refine gR (fun m g L=>∃ (k:Nat) (v:Int) (R:Hp),1≤k∧k≤l.length∧m=l.length - k∧g=[(0,.slice (some ⟨b0,o0,none⟩) l.length c),(3,.int .i64 v),(4,.int .i64 k)]∧v∈l∧(∀ m∈[v],∀ x∈l.take k,x≤m)∧L=X+fr+R) _ _
  ⟨1,l[0],0,Nat.le_refl _,h0,rfl,rfl,List.getElem_mem h0,?_,by rw [yA]⟩ zsb ?_
 ·intro m hm x hx
  rw [List.mem_singleton] at hm
  have:l.take 1=[l[0]]:=by rw [List.take_succ_eq_append_getElem h0]; rfl
  rw [this,List.mem_singleton] at hx
  rw [hm,hx]; exact Int.le_refl _
 rintro m g L ⟨k,v,R,hk1,hk,rfl,rfl,hv1,hv2,rfl⟩
 refine zaP ?_
 refine yF M M (yS M M) (fun n1=>?_) (fun n1=>?_)
 ·have hx:k<l.length:=by omega
  obtain ⟨b1,o1,ha1,e1,he1,hat⟩:=hv.at hx
  obtain rfl:=he1
  simp only [Option.some.injEq,Addr.mk.injEq] at ha1
  obtain ⟨rfl,rfl,-⟩:=ha1
  refine zaT ?_
  refine yG M M (pv_max M M) ?_
  refine zaI ?_
  refine ⟨l.length - (k+1),_,by omega,zsb,k+1,_,_,by omega,by omega,rfl,rfl,?_,?_,yJ.out⟩
  ·split
   ·exact List.getElem_mem hx
   ·exact hv1
  ·intro m hm x hxx
   rw [List.mem_singleton] at hm
   subst hm
   rw [List.take_succ_eq_append_getElem hx,List.mem_append,List.mem_singleton] at hxx
   rcases hxx with hxx|rfl
   ·have:=hv2 v (by simp) x hxx
    split<;>omega
   ·split<;>omega
 ·obtain rfl:k=l.length:=by omega
  refine zaK ?_
  exact ⟨[_],X,_,⟨rfl,trivial⟩,⟨v,rfl,hv1,fun x hx=>hv2 v (by simp) x (by rw [List.take_length]; exact hx),rfl⟩,yJ.out⟩
def badL (n:Int) (l:List Int):Bool:=decide (l=[]∨∃ x∈l,x<1∨n<x)
theorem right1_spec (w0:World) (X:Hp) (k:Cfg) (vm vr vs:Value) (l:List Int) (a:Option Addr) (c bx:Nat) (hv:RdL w0 X (.slice a l.length c) l) (hl:l.length≤1000000000) (h1:At w0 X bx 0 (dH k vm vr vs)) :
  yO Tryz.prog w0 60 [.slice a l.length c,pB bx] X (fun v h'=>v=.bool (badL k.nodes l)∧X=h'):=by
 have hmin:=fun h=>minI_spec w0 X l a c hv h hl
 have hmax:=fun h=>maxI_spec w0 X l a c hv h hl
 refine zN Tryz.func60 M Tryz.ntmps60 Tryz.results60 M fun fr=>?_
 refine zaC ?_
 refine yB [5,10] [0,1,2,3,4,5,6,7,8,9,11,12,10,13,14,15] (by kernel_rfl) M (by kernel_rfl) (by kernel_rfl) ?_
 repeat (first|refine yH M M M M M ?_|refine yD M M M M (pv_len M) ?_)
 refine jY M M M M (yK M M) (fun n1=>?_) (fun n1=>?_)
 ·refine zbY ?_
  repeat (refine zM ?_)
  exact ⟨[_],X,_,⟨rfl,trivial⟩,⟨congrArg Value.bool (decide_eq_true (.inl (List.eq_nil_of_length_eq_zero (by omega)))).symm,rfl⟩,yJ.out⟩
 have hne:l≠[]:=by rintro rfl; exact n1 M
 repeat (refine yH M M M M M ?_)
 refine xU M M M M (zQ M M M) (hmin hne) (xF.all _) ?_
 rintro _ _ ⟨m,rfl,q1,q2,rfl⟩
 refine ⟨zka,?_⟩
 skip
 refine jY M M M M (yS M M) (fun n2=>?_) (fun n2=>?_)
 ·refine zbY ?_
  repeat (refine zM ?_)
  exact ⟨[_],X,_,⟨rfl,trivial⟩,⟨congrArg Value.bool (decide_eq_true (.inr ⟨m,q1,.inl n2⟩)).symm,rfl⟩,yJ.out⟩
 repeat (first|refine yH M M M M M ?_|refine yD M M M M (zZ M M M) ?_|refine W_atf M M (by assumption) M M M M M ?_)
 refine xU M M M M (zQ M M M) (hmax hne) (xF.all _) ?_
 rintro _ _ ⟨u,rfl,q3,q4,rfl⟩
 refine ⟨zka,?_⟩
 skip
 refine jY M M M M (kB M M) (fun n3=>?_) (fun n3=>?_)
 ·refine zaD ?_
  repeat (refine zM ?_)
  exact ⟨[_],X,_,⟨rfl,trivial⟩,⟨congrArg Value.bool (decide_eq_true (.inr ⟨u,q3,.inr n3⟩)).symm,rfl⟩,yJ.out⟩
 ·refine zaD ?_
  repeat (refine zM ?_)
  refine ⟨[_],X,_,⟨rfl,trivial⟩,⟨congrArg Value.bool (decide_eq_false ?_).symm,rfl⟩,yJ.out⟩
  rintro (h|⟨x,hx,h⟩)
  ·exact hne h
  ·have:=q2 x hx
   have:=q4 x hx
   omega
theorem right3_spec (w0:World) (X:Hp) (k:Cfg) (am:Option Addr) (cm:Nat) (vr vs:Value) (r:Rng) (bx:Nat) (h1:At w0 X bx 0 (dH k (.slice am k.mem.length cm) vr vs)) :
  yO Tryz.prog w0 64 [.agg [.int .i64 r.lo,.int .i64 r.hi,.int .i64 r.group,.int .i64 r.epoch].toArray,pB bx] X (fun v h'=>v=.bool (decide ((k.mem.length:Int)≤r.group))∧X=h'):=by
 refine zN Tryz.func64 M Tryz.ntmps64 Tryz.results64 M fun fr=>?_
 repeat (first|refine zF ?_|refine zB ?_|refine zE ?_|refine zK M M M ?_|refine zY M M M M M ?_|refine yM M M M M M ?_|refine yT M M M ?_|refine gO M (by assumption) M M M M ?_|refine xN M (c:=[_,_,_,_]) M M M (fun _=>?_))
 refine yG M M (kQ M M) ?_
 refine zaE ?_
 exact ⟨[_],X,_,⟨rfl,trivial⟩,⟨rfl,rfl⟩,yJ.out⟩
def oddS (s:Spn):Bool:=decide (s.lo<0∨s.hi≤s.lo∨64<s.hi)
theorem right2_spec (w0:World) (X:Hp) (s:Spn) :
  yO Tryz.prog w0 63 [.agg [.int .i64 s.lo,.int .i64 s.hi].toArray] X (fun v h'=>v=.bool (oddS s)∧X=h'):=by
 unfold oddS
 refine zN Tryz.func63 M Tryz.ntmps63 Tryz.results63 M fun fr=>?_
 repeat' (first|refine zF ?_|refine zB ?_|refine zE ?_|refine zK M M M ?_|refine zY M M M M M ?_|refine yM M M M M M ?_|refine xE M M ?_|refine zM ?_|refine xN M (c:=[_,_]) M M M (fun _=>?_)|refine yF M M (yS M M) (fun _=>?_) (fun _=>?_)|refine yF M M (kB M M) (fun _=>?_) (fun _=>?_)|refine yF M M (kQ M M) (fun _=>?_) (fun _=>?_)|exact ⟨[_],X,_,⟨rfl,trivial⟩,⟨by first|exact congrArg Value.bool (decide_eq_true (by omega)).symm|exact congrArg Value.bool (decide_eq_false (by omega)).symm,rfl⟩,yJ.out⟩|done)
def firstM (k:Cfg):Mpp:=⟨k.rngs,k.rngs.foldl (fun e r=>max e r.epoch) 0,0,0,0,0,0⟩
theorem firstM_take (l:List Rng) {i:Nat} (hi:i<l.length):(l.take (i+1)).foldl (fun e (r:Rng)=>max e r.epoch) 0=max ((l.take i).foldl (fun e (r:Rng)=>max e r.epoch) 0) l[i].epoch:=by
 rw [List.take_succ_eq_append_getElem hi,List.foldl_append]; rfl
theorem firstMap_spec (w0:World) (X:Hp) (k:Cfg) (vm vs:Value) (ar:Option Addr) (cr:Nat) (h2:vm.oneCell'=true) (h3:vs.oneCell'=true) (hv:RdL w0 X (.slice ar k.rngs.length cr) k.rngs) (hl:k.rngs.length≤1000000) :
  yO Tryz.prog w0 29 [.agg (dH k vm (.slice ar k.rngs.length cr) vs).toArray] X (fun r h'=>∃ a c G,r=.agg [.slice a k.rngs.length c,.int .i64 (firstM k).epoch,.int .i64 0,.int .i64 0,.int .i64 0,.int .i64 0,.int .i64 0].toArray∧RdL w0 G (.slice a k.rngs.length c) k.rngs∧X+G=h'):=by
 refine zN Tryz.func29 M Tryz.ntmps29 Tryz.results29 M fun fr=>?_
 repeat (first|refine zF ?_|refine zB ?_|refine zE ?_|refine zY M M M M M ?_|refine yM M M M M M ?_|refine xN M (c:=[_,_,_,_,_,_]) M M M (fun _=>?_)|refine xK (c:=[_,_,_,_,_,_,_]) M M M (fun _=>?_))
 rename_i b1 b2
 refine zX M M (zQ M M M) (cloneRngs_spec w0 X _ k.rngs hv (by omega)) ?_
 rintro vc _ ⟨hc,hcl,rfl⟩
 obtain ⟨ac,cc,rfl⟩:=hcl.shape
 have hcl0:OwL w0 0 k.rngs (.slice ac k.rngs.length cc) hc:=by
  obtain ⟨es,q1,q2⟩:=hcl
  exact ⟨es,q1,kU.mono (S:=Rep.rd w0 0) (fun x e he=>he) q2⟩
 repeat (first|refine zF ?_|refine zR ?_|refine zB ?_|refine zE ?_|refine zK M M M ?_|refine zY M M M M M ?_|refine yM M M M M M ?_|refine yT M M M ?_|refine yL (vs:=[_]) (cells:=[_,_,_,_,_,_,_]) M M M M ?_|refine yY M (vs:=[_,_,_,_,_,_,_]) M M M M (c':=[_,_,_,_,_,_,_]) M M ?_|refine xK (c:=[_,_,_,_,_,_,_]) M M M (fun _=>?_))
 rename_i b3
 refine yN k.rngs.length (fun i g L=>∃ (R:Hp),g=[(2,pB b2),(3,pB b3),(11,.slice ar k.rngs.length cr),(12,.int .i64 k.rngs.length),(13,.int .i64 i)] ∧
  L=pt b3 (.cells [.slice ac k.rngs.length cc,.int .i64 ((k.rngs.take i).foldl (fun e (r:Rng)=>max e r.epoch) 0),.int .i64 0,.int .i64 0,.int .i64 0,.int .i64 0,.int .i64 0].toArray 88 (0,0))+(pt b2 (.cells [.slice none 0 0,.int .i64 0,.int .i64 0,.int .i64 0,.int .i64 0,.int .i64 0,.int .i64 0].toArray 88 (0,0))+(X+hc+fr))+R) _
  (by rw [List.take_zero,List.foldl_nil]; exact ⟨_,rfl,yJ.out⟩) zsb ?_
 rintro i g L hi ⟨R,rfl,rfl⟩
 refine zaH ?_
 refine yF M M (yS M M) (fun n1=>?_) (fun n1=>?_)
 ·have hx:i<k.rngs.length:=by omega
  obtain ⟨bq,oq,rfl,e,rfl,hat⟩:=hv.at hx
  have hs:=firstM_take k.rngs hx
  generalize k.rngs[i]=r at *
  repeat (first|refine zF ?_|refine zR ?_|refine zB ?_|refine zE ?_|refine zY M M M M M ?_|refine yM M M M M M ?_|refine zP ?_|refine zJ M ?_|refine kC M M (by omega) M M ?_|refine vU M (by assumption) M M M M ?_|refine yY M (vs:=[_,_,_,_]) M M M M (c':=[_,_,_,_]) M M ?_|refine xK (c:=[_,_,_,_]) M M M (fun _=>?_))
  refine yG M M (pv_max M M) ?_
  rw [show (if (k.rngs.take i).foldl (fun e (r:Rng)=>max e r.epoch) 0<r.epoch then r.epoch else (k.rngs.take i).foldl (fun e (r:Rng)=>max e r.epoch) 0)=(k.rngs.take (i+1)).foldl (fun e (r:Rng)=>max e r.epoch) 0 by rw [hs]; split<;>omega]
  repeat (first|refine zB ?_|refine zE ?_|refine zK M M M ?_|refine zY M M M M M ?_|refine yU M M (by omega) (by omega) M M ?_|refine xD M M M (c':=[_,_,_,_,_,_,_]) M M M M ?_)
  exact ⟨hx,_,zsb,_,rfl,yJ.out⟩
 ·obtain rfl:i=k.rngs.length:=by omega
  rw [List.take_length]
  repeat (first|refine zF ?_|refine yC ?_|refine zB ?_|refine zE ?_|refine zM ?_|refine zI M ?_|refine xJ M (vs:=[_,_,_,_,_,_,_]) M M M M M ?_|refine yY M (vs:=[_,_,_,_,_,_,_]) M M M M (c':=[_,_,_,_,_,_,_]) M M ?_)
  exact ⟨[_],_,_,⟨⟨_,rfl,zL (vs:=[_,_,_,_,_,_,_]) M M M⟩,trivial⟩,⟨ac,cc,hc,rfl,hcl0.rdh,rfl⟩,yJ.out⟩
structure RightP (k:Cfg) (id:Int):Prop where
 id:1≤id∧id≤4
 nodes:1≤k.nodes∧k.nodes≤7
 mem:1≤k.mem.length∧k.mem.length≤5∧∀ l∈k.mem,badL k.nodes l=false
 map:dZ (firstM k)=0
 accs:k.accs≤k.nodes
 accs0:0≤k.accs
theorem firstM_i64 {k:Cfg} (h:∀ r∈k.rngs,I64 r.epoch):I64 (firstM k).epoch:=by
 have:∀ (l:List Rng) (e:Int),(∀ r∈l,I64 r.epoch)→I64 e→I64 (l.foldl (fun e (r:Rng)=>max e r.epoch) e):=by
  intro l
  induction l with
  | nil=>exact fun e _ h=>h
  | cons r l ih =>
   intro e h he
   refine ih _ (fun x hx=>h x (by simp [hx])) ?_
   have:=h r (by simp)
   show I64 (max e r.epoch)
   unfold I64 at this he ⊢
   omega
 exact this _ _ h xB
structure RightQ (k:Cfg) (id:Int):Prop where
 nums:1≤id∧id≤k.clis∧k.clis≤4∧1≤k.nodes∧k.nodes≤7∧1≤k.accs∧k.accs≤k.nodes∧k.accs % 2=1∧1≤k.mem.length∧k.mem.length≤5
 mem:k.mem.any (badL k.nodes)=false
 map:dZ (firstM k)=0
 grp:k.rngs.any (fun r=>decide ((k.mem.length:Int)≤r.group))=false
 sets:k.sets.any oddS=false
theorem right_spec (w0:World) (X:Hp) (k:Cfg) (am ar asx:Option Addr) (cm cr cs:Nat) (id:Int) (h1:RdL w0 X (.slice am k.mem.length cm) k.mem) (h2:RdL w0 X (.slice ar k.rngs.length cr) k.rngs) (h3:RdL w0 X (.slice asx k.sets.length cs) k.sets)
  (hl:k.mem.length≤1000000∧k.rngs.length≤1000000∧k.sets.length≤1000000) (hlm:∀ l∈k.mem,l.length≤1000000) (hep:∀ r∈k.rngs,I64 r.epoch) :
  yO Tryz.prog w0 28 [.agg (dH k (.slice am k.mem.length cm) (.slice ar k.rngs.length cr) (.slice asx k.sets.length cs)).toArray,.int .i64 id] X (fun r h'=>∃ q:Bool,r=.bool q∧(q=true→RightP k id)∧(RightQ k id→q=true)∧X=h'):=by
 have hfm:=firstMap_spec w0 X k (.slice am k.mem.length cm) (.slice asx k.sets.length cs) ar cr M M h2 hl.2.1
 have hfe:=firstM_i64 hep
 refine zN Tryz.func28 M Tryz.ntmps28 Tryz.results28 M fun fr=>?_
 repeat (first|refine zF ?_|refine zB ?_|refine zE ?_|refine zK M M M ?_|refine xN M (c:=[_,_,_,_,_,_]) M M M (fun _=>?_)|refine uI M M M ?_)
 rename_i b2
 have hmb:=containsFuncLI_spec w0 (X+pt b2 (.cells (dH k (.slice am k.mem.length cm) (.slice ar k.rngs.length cr) (.slice asx k.sets.length cs)).toArray 32 (0,0))) (.slice am k.mem.length cm) k.mem 60 [pB b2] (badL k.nodes) (h1.mono M) (by omega) (fun x e hx he=>by
  obtain ⟨a1,c1,rfl,hrd⟩:=_root_.id he
  exact right1_spec w0 _ k _ _ _ x a1 c1 b2 hrd (by have:=hlm x hx; omega) jI)
 have hrb:=containsFuncRng_spec w0 (X+pt b2 (.cells (dH k (.slice am k.mem.length cm) (.slice ar k.rngs.length cr) (.slice asx k.sets.length cs)).toArray 32 (0,0))) (.slice ar k.rngs.length cr) k.rngs 64 [pB b2] (fun r=>decide ((k.mem.length:Int)≤r.group)) (h2.mono M) (by omega) (fun Y x e hx he=>by
  obtain rfl:=he
  exact right3_spec w0 _ k am cm _ _ x b2 jI)
 have hsb:=containsFuncSpn_spec w0 X (.slice asx k.sets.length cs) k.sets 63 [] oddS h3 (by omega) (fun Y x e hx he=>by
  obtain rfl:=he
  exact right2_spec w0 X x)
 repeat' (first|refine zE ?_|refine zK M M M ?_|refine zY M M M M M ?_|refine yM M M M M M ?_|refine xE M M ?_|refine zM ?_|refine yF M M (dD M M) (fun _=>?_) (fun _=>?_)|refine yF M M (kQ M M) (fun _=>?_) (fun _=>?_)|exact ⟨[_],X,_,⟨rfl,trivial⟩,⟨false,rfl,(fun h=>by cases h),(fun h=>by have hh:=h.nums; exfalso; omega),rfl⟩,yJ.out⟩|done)
 refine yG M M (pv_rem_nn M M (by omega) (by decide)) ?_
 repeat' (first|refine zE ?_|refine zK M M M ?_|refine zY M M M M M ?_|refine yM M M M M M ?_|refine yT M M M ?_|refine xE M M ?_|refine zM ?_|refine yF M M (dD M M) (fun _=>?_) (fun _=>?_)|refine yF M M (kQ M M) (fun _=>?_) (fun _=>?_)|refine yF M M (yK M M) (fun _=>?_) (fun _=>?_)|exact ⟨[_],X,_,⟨rfl,trivial⟩,⟨false,rfl,(fun h=>by cases h),(fun h=>by have hh:=h.nums; exfalso; omega),rfl⟩,yJ.out⟩|done)
 refine zX M M (zQ M M M) hmb ?_
 rintro _ _ ⟨rfl,rfl⟩
 cases hm:k.mem.any (badL k.nodes)
 rotate_left
 ·refine zbJ ?_
  exact ⟨[_],X,_,⟨rfl,trivial⟩,⟨false,rfl,(fun h=>by cases h),(fun h=>by rw [h.mem] at hm; cases hm),rfl⟩,yJ.out⟩
 repeat (first|refine zK M M M ?_|refine xJ M (vs:=[_,_,_,_,_,_]) M M M M M ?_)
 refine zX M M (zQ M M M) hfm ?_
 rintro _ _ ⟨a4,c4,G,rfl,hrg,rfl⟩
 skip
 refine zX M M (zQ M M M) (checkRanges_spec w0 G (firstM k) a4 c4 hrg (by show k.rngs.length≤_; omega) hfe) ?_
 rintro _ _ ⟨rfl,rfl⟩
 skip
 refine yF M M (yK M M) (fun hck=>?_) (fun hck=>?_)
 rotate_left
 ·refine zbJ ?_
  exact ⟨[_],X,_,⟨rfl,trivial⟩,⟨false,rfl,(fun h=>by cases h),(fun h=>absurd h.map hck),rfl⟩,yJ.out⟩
 refine zaN ?_
 refine zX M M (zQ M M M) hrb ?_
 rintro _ _ ⟨rfl,rfl⟩
 cases hr:k.rngs.any (fun r=>decide ((k.mem.length:Int)≤r.group))
 rotate_left
 ·refine zbJ ?_
  exact ⟨[_],X,_,⟨rfl,trivial⟩,⟨false,rfl,(fun h=>by cases h),(fun h=>by rw [h.grp] at hr; cases hr),rfl⟩,yJ.out⟩
 refine zaN ?_
 refine zX M M (zQ M M M) hsb ?_
 rintro _ _ ⟨rfl,rfl⟩
 have hok:RightP k id:=⟨by omega,by omega,⟨by omega,by omega,fun l hl=>by simpa using (List.any_eq_false.1 hm) l hl⟩,hck,by omega,by omega⟩
 cases hs:k.sets.any oddS
 ·refine zaE ?_
  exact ⟨[_],X,_,⟨rfl,trivial⟩,⟨true,rfl,(fun _=>hok),(fun _=>rfl),rfl⟩,yJ.out⟩
 ·refine zaE ?_
  exact ⟨[_],X,_,⟨rfl,trivial⟩,⟨false,rfl,(fun h=>by cases h),(fun h=>by rw [h.sets] at hs; cases hs),rfl⟩,yJ.out⟩
structure Lop where
 kind:Int
 x:Cal
 d:List Bt
 pk:Pkt
 m:Msg
abbrev cells28 (o:Lop) (vd vp ve vm:Value):List Value:=[.int .i64 o.kind,.int .i64 o.x.kind,.int .i64 o.x.block,.int .i64 o.x.set,.int .i64 o.x.snap,.int .i64 o.x.txn,.int .i64 o.x.src,.int .i64 o.x.dst,.int .i64 o.x.lo,.int .i64 o.x.hi,.int .i64 o.x.group,.int .i64 o.x.node,.int .i64 o.x.value,vd,.int .i64 o.pk.src,.int .i64 o.pk.dst,vp,.int .i64 o.m.kind,.int .i64 o.m.src,.int .i64 o.m.dst,.int .i64 o.m.group,.int .i64 o.m.term,.int .i64 o.m.index,.int .i64 o.m.prev,.int .i64 o.m.commit,.int .i64 o.m.round,.int .i64 o.m.txn,.int .i64 o.m.part,.int .i64 o.m.ballot,.int .i64 o.m.value,.int .i64 o.m.seq,.bool o.m.ok,ve,vm]
instance repLop :Rep Lop where
 tid:=57
 size:=34
 rd:=fun w0 L o e=>∃ da dc pa pc ea ec ma mc,e=cells28 o (.slice da o.d.length dc) (.slice pa o.pk.bytes.length pc) (.slice ea o.m.entries.length ec) (.slice ma o.m.data.length mc) ∧
  RdL w0 L (.slice da o.d.length dc) o.d∧RdL w0 L (.slice pa o.pk.bytes.length pc) o.pk.bytes∧RdL w0 L (.slice ea o.m.entries.length ec) o.m.entries∧RdL w0 L (.slice ma o.m.data.length mc) o.m.data∧o.pk.bytes.length≤pc
 len:=by rintro _ _ _ _ ⟨_,_,_,_,_,_,_,_,rfl,_⟩; rfl
 one:=by
  rintro _ _ _ _ ⟨_,_,_,_,_,_,_,_,rfl,_⟩ u hu
  simp only [List.mem_cons,List.not_mem_nil,or_false] at hu
  rcases hu with rfl|rfl|rfl|rfl|rfl|rfl|rfl|rfl|rfl|rfl|rfl|rfl|rfl|rfl|rfl|rfl|rfl|rfl|rfl|rfl|rfl|rfl|rfl|rfl|rfl|rfl|rfl|rfl|rfl|rfl|rfl|rfl|rfl|rfl<;>rfl
 mono:=by rintro _ _ _ _ _ _ e ⟨a1,a2,a3,a4,a5,a6,a7,a8,rfl,h1,h2,h3,h4,h5⟩; exact ⟨a1,a2,a3,a4,a5,a6,a7,a8,rfl,h1.mono e,h2.mono e,h3.mono e,h4.mono e,h5⟩
theorem At.sub {w0:World} {L:Hp} {b o:Nat} {e:List Value} (h:At w0 L b o e) (k n:Nat) {e':List Value} (he:(e.drop k).take n=e'):At w0 L b (o+k) e':=fun j u hj=>by
 subst he
 rw [List.getElem?_take] at hj
 split at hj
 ·rw [List.getElem?_drop] at hj
  have:=h (k+j) u hj
  rw [Nat.add_assoc]; exact this
 ·cases hj
structure SmallLop (o:Lop):Prop where
 d:o.d.length≤4096
 pk:o.pk.bytes.length≤65536
 m:bigMF o.m 100 16384=false
structure LenLop (o:Lop):Prop where
 e:o.m.entries.length≤10000000000000
theorem bigEntries2_spec (w0:World) (X:Hp) (l:List Ent) (a:Option Addr) (c i n:Nat) (hv:RdL w0 X (.slice a l.length c) l) (hl:l.length≤10000000000000) (hn:n≤1000000000) :
  yO Tryz.prog w0 83 [.slice a l.length c,.int .i64 i,.int .i64 n] X (fun r h'=>r=.bool (bigEF l i n)∧X=h'):=by
 refine zN Tryz.func83 M Tryz.ntmps83 Tryz.results83 M fun fr=>?_
 refine zbC ?_
 refine yF M M (kB M M) (fun n1=>?_) (fun n1=>?_)
 ·have hF:bigEF l i n=true:=by unfold bigEF; rw [decide_eq_true (by omega)]; rfl
  rw [hF]
  refine zaB ?_
  exact ⟨[_],X,_,⟨rfl,trivial⟩,⟨rfl,rfl⟩,yJ.out⟩
 have hF:bigEF l i n=decide (n<sumB n l):=by unfold bigEF; rw [decide_eq_false (by omega)]; rfl
 rw [hF]
 refine zcD ?_
 refine yN l.length (fun k g L=>∃ R:Hp,g=[(0,.slice a l.length c),(2,.int .i64 n),(7,.int .i64 ((sumB n (l.take k):Nat):Int)),(8,.int .i64 k)]∧sumB n (l.take k)≤n∧L=X+fr+R) _ ⟨_,rfl,by simp [sumB],yJ.out⟩ zsb ?_
 rintro k g L hk ⟨R,rfl,hs,rfl⟩
 refine zaP ?_
 refine yF M M (yS M M) (fun n2=>?_) (fun n2=>?_)
 ·have hx:k<l.length:=by omega
  have hst:=sumB_take (n:=n) hx
  have hle:=sumB_le n l (k+1)
  obtain ⟨b2,o2,rfl,e,hr,hat⟩:=hv.at hx
  obtain ⟨a5,c5,rfl,hr5⟩:=hr
  have hq:min l[k].data.length (n+1)≤n+1:=Nat.min_le_right _ _
  have hmn:(if ((n:Int)+1)<(l[k].data.length:Nat) then ((n:Int)+1) else (l[k].data.length:Nat))=((min l[k].data.length (n+1):Nat):Int):=by
   split
   ·rw [Nat.min_eq_right (by omega)]; rfl
   ·rw [Nat.min_eq_left (by omega)]
  repeat (first|refine zF ?_|refine zR ?_|refine zB ?_|refine zE ?_|refine zK M M M ?_|refine zY M M M M M ?_|refine yT M M M ?_|refine zP ?_|refine zJ M ?_|refine yU M M (by omega) (by omega) M M ?_|refine kC M M (by omega) M M ?_|refine gO M (by assumption) M M M M ?_)
  refine yG M M (pv_min_to M M hmn) ?_
  generalize min l[k].data.length (n+1)=q at hq hst
  refine zcX ?_
  rw [show ((sumB n (l.take k):Nat):Int)+(q:Int)=((sumB n (l.take (k+1)):Nat):Int) by omega]
  refine yF M M (kB M M) (fun n3=>?_) (fun n3=>?_)
  ·refine zaB ?_
   exact ⟨[_],X,_,⟨rfl,trivial⟩,⟨congrArg Value.bool (decide_eq_true (by omega)).symm,rfl⟩,yJ.out⟩
  ·refine zaJ ?_
   exact ⟨hx,_,zsb,_,rfl,by omega,yJ.out⟩
 ·rw [List.take_of_length_le (by omega)] at hs
  refine zaK ?_
  exact ⟨[_],X,_,⟨rfl,trivial⟩,⟨congrArg Value.bool (decide_eq_false (by omega)).symm,rfl⟩,yJ.out⟩
theorem bigMsg2_spec (w0:World) (X:Hp) (m:Msg) (a a2:Option Addr) (c c2 i n:Nat) (hv:RdL w0 X (.slice a m.entries.length c) m.entries) (hl:m.entries.length≤10000000000000) (hn:n≤1000000000) :
  yO Tryz.prog w0 33 [.agg (xI m (.slice a m.entries.length c) (.slice a2 m.data.length c2)).toArray,.int .i64 i,.int .i64 n] X (fun r h'=>r=.bool (bigMF m i n)∧X=h'):=by
 refine zN Tryz.func33 M Tryz.ntmps33 Tryz.results33 M fun fr=>?_
 repeat (first|refine zF ?_|refine zB ?_|refine zE ?_|refine zK M M M ?_|refine zY M M M M M ?_|refine yM M M M M M ?_|refine xN M (c:=[_,_,_,_,_,_,_,_,_,_,_,_,_,_,_,_,_]) M M M (fun _=>?_))
 refine zX M M (zQ M M M) (bigEntries2_spec w0 X m.entries a c i n hv hl hn) ?_
 rintro _ _ ⟨rfl,rfl⟩
 unfold bigMF
 cases bigEF m.entries i n
 ·refine zbW ?_
  refine yG M M (kB M M) ?_
  refine zaE ?_
  exact ⟨[_],X,_,⟨rfl,trivial⟩,⟨congrArg Value.bool (by rw [Bool.false_or]; exact decide_eq_decide.2 (by omega)),rfl⟩,yJ.out⟩
 ·refine zbJ ?_
  exact ⟨[_],X,_,⟨rfl,trivial⟩,⟨rfl,rfl⟩,yJ.out⟩
theorem big28_spec (w0:World) (X:Hp) (l:List Lop) (a:Option Addr) (c:Nat) (hv:RdL w0 X (.slice a l.length c) l) (hl:l.length≤1000000000000) (hlen:∀ o∈l,LenLop o) :
  yO Tryz.prog w0 14 [.slice a l.length c] X (fun r h'=>∃ q:Bool,r=.bool q∧(q=false→l.length≤200∧∀ o∈l,SmallLop o)∧X=h'):=by
 refine zN Tryz.func14 M Tryz.ntmps14 Tryz.results14 M fun fr=>?_
 refine zbC ?_
 refine yF M M (kB M M) (fun n0=>?_) (fun n0=>?_)
 ·refine zaB ?_
  exact ⟨[_],X,_,⟨rfl,trivial⟩,⟨true,rfl,(fun h=>by cases h),rfl⟩,yJ.out⟩
 refine zcD ?_
 refine yN l.length (fun k g L=>∃ R:Hp,g=[(0,.slice a l.length c),(3,.int .i64 k)]∧(∀ o∈l.take k,SmallLop o)∧L=X+fr+R) _ ⟨0,rfl,by simp,(yA _).symm⟩ zsb ?_
 rintro k g L hk ⟨R,rfl,hp,rfl⟩
 refine zaP ?_
 refine yF M M (yS M M) (fun n1=>?_) (fun n1=>?_)
 ·have hx:k<l.length:=by omega
  obtain ⟨b3,o3,rfl,e,he,hat⟩:=hv.at hx
  have hts:=List.take_succ_eq_append_getElem hx
  have hmem:=List.getElem_mem hx
  generalize l[k]=o at *
  obtain ⟨da,dc,pa,pc,ea,ec,ma,mc,rfl,r1,r2,r3,r4,r5⟩:=id he
  have hat1:=hat.sub 1 13 rfl
  have hat2:=hat.sub 14 3 rfl
  have hat3:=hat.sub 17 17 rfl
  simp only [cells28,List.drop_succ_cons,List.drop_zero,List.take_succ_cons,List.take_zero] at hat1 hat2 hat3
  repeat (first|refine zF ?_|refine zR ?_|refine zB ?_|refine zE ?_|refine zK M M M ?_|refine zY M M M M M ?_|refine yT M M M ?_|refine zP ?_|refine zJ M ?_|refine kC M M (by omega) M M ?_|refine gO M (by assumption) M M M M ?_)
  refine yF M M (kB M M) (fun n2=>?_) (fun n2=>?_)
  ·refine zbS ?_
   exact ⟨[_],X,_,⟨rfl,trivial⟩,⟨true,rfl,(fun h=>by cases h),rfl⟩,yJ.out⟩
  repeat (first|refine zK M M M ?_|refine zY M M M M M ?_|refine yT M M M ?_|refine kC M M (by omega) M M ?_|refine gO M (by assumption) M M M M ?_)
  refine yF M M (kB M M) (fun n3=>?_) (fun n3=>?_)
  ·refine zbS ?_
   exact ⟨[_],X,_,⟨rfl,trivial⟩,⟨true,rfl,(fun h=>by cases h),rfl⟩,yJ.out⟩
  repeat (first|refine zK M M M ?_|refine zY M M M M M ?_|refine kC M M (by omega) M M ?_|refine vU M (by assumption) M M M M ?_)
  refine zX M M (zQ M M M) (bigMsg2_spec w0 X o.m ea ma ec mc 100 16384 r3 (hlen _ hmem).e (by decide)) ?_
  rintro _ _ ⟨rfl,rfl⟩
  cases hb:bigMF o.m 100 16384
  ·refine zaJ ?_
   refine ⟨hx,_,zsb,_,rfl,?_,yJ.out⟩
   rw [hts]
   intro q hq
   rw [List.mem_append,List.mem_singleton] at hq
   rcases hq with hq|rfl
   ·exact hp q hq
   ·exact ⟨by omega,by omega,hb⟩
  ·refine zaB ?_
   exact ⟨[_],X,_,⟨rfl,trivial⟩,⟨true,rfl,(fun h=>by cases h),rfl⟩,yJ.out⟩
 ·rw [List.take_of_length_le (by omega)] at hp
  refine zaK ?_
  exact ⟨[_],X,_,⟨rfl,trivial⟩,⟨false,rfl,fun _=>⟨by omega,hp⟩,rfl⟩,yJ.out⟩
theorem zcV {G G' : Prop} (h : G') (f : Zh G'→G:=by intro h; (repeat (first|refine zF ?_|refine zB ?_|refine zK M M M ?_|refine zY M M M M M ?_|refine yM M M M M M ?_|refine yT M M M ?_)); exact h.o) : G:=f ⟨h⟩
theorem wide28_spec (w0:World) (X:Hp) (k:Cfg) (am ar asx:Option Addr) (cm cr cs:Nat) (h1:RdL w0 X (.slice am k.mem.length cm) k.mem) (hl:k.mem.length≤10000000000000) :
  yO Tryz.prog w0 15 [.agg (dH k (.slice am k.mem.length cm) (.slice ar k.rngs.length cr) (.slice asx k.sets.length cs)).toArray] X
   (fun r h'=>∃ q:Bool,r=.bool q∧(q=false→k.mem.length≤20∧k.rngs.length≤100∧k.sets.length≤100∧∀ l∈k.mem,l.length≤100)∧X=h'):=by
 refine zN Tryz.func15 M Tryz.ntmps15 Tryz.results15 M fun fr=>?_
 repeat (first|refine zF ?_|refine zB ?_|refine zE ?_|refine zK M M M ?_|refine zY M M M M M ?_|refine yM M M M M M ?_|refine yT M M M ?_|refine xN M (c:=[_,_,_,_,_,_]) M M M (fun _=>?_))
 rename_i b1
 repeat' (first|refine zF ?_|refine zR ?_|refine zB ?_|refine zE ?_|refine zK M M M ?_|refine zY M M M M M ?_|refine yM M M M M M ?_|refine yT M M M ?_|refine xE M M ?_|refine zP ?_|refine zM ?_|refine zJ M ?_|refine zI M ?_|refine yF M M (kB M M) (fun _=>?_) (fun _=>?_)|exact ⟨[_],X,_,⟨rfl,trivial⟩,⟨true,rfl,(fun h=>by cases h),rfl⟩,yJ.out⟩|done)
 refine yN k.mem.length (fun i g L=>∃ R:Hp,g=[(1,pB b1),(3,.int .i64 i)]∧(∀ l∈k.mem.take i,l.length≤100)∧L=pt b1 (.cells (dH k (.slice am k.mem.length cm) (.slice ar k.rngs.length cr) (.slice asx k.sets.length cs)).toArray 32 (0,0))+(X+fr)+R) _ ⟨_,rfl,by simp,yJ.out⟩ zsb ?_
 rintro i g L hi ⟨R,rfl,hp,rfl⟩
 refine zcV ?_
 refine yF M M (yS M M) (fun n1=>?_) (fun n1=>?_)
 ·have hx:i<k.mem.length:=by omega
  obtain ⟨b3,o3,rfl,e,he,hat⟩:=h1.at hx
  have hts:=List.take_succ_eq_append_getElem hx
  generalize k.mem[i]=l at *
  obtain ⟨a4,c4,rfl,hrd⟩:=id he
  repeat (first|refine zF ?_|refine zR ?_|refine zB ?_|refine zE ?_|refine zK M M M ?_|refine zY M M M M M ?_|refine yM M M M M M ?_|refine yT M M M ?_|refine zP ?_|refine zJ M ?_|refine kC M M (by omega) M M ?_|refine wA M (by assumption) M M M M ?_)
  refine yF M M (kB M M) (fun n2=>?_) (fun n2=>?_)
  ·refine zaB ?_
   exact ⟨[_],X,_,⟨rfl,trivial⟩,⟨true,rfl,(fun h=>by cases h),rfl⟩,yJ.out⟩
  ·refine zaJ ?_
   refine ⟨hx,_,zsb,_,rfl,?_,yJ.out⟩
   rw [hts]
   intro q hq
   rw [List.mem_append,List.mem_singleton] at hq
   rcases hq with hq|rfl
   ·exact hp q hq
   ·omega
 ·rw [List.take_of_length_le (by omega)] at hp
  refine zaK ?_
  exact ⟨[_],X,_,⟨rfl,trivial⟩,⟨false,rfl,fun _=>⟨by omega,by omega,by omega,hp⟩,rfl⟩,yJ.out⟩
section
variable {P:Program} {g:Env}
theorem kZ {t e ty:TypeId} [hu:Und P t (.pointer e)] {x y:Operand} {q:Option Addr} (hx:ev g x=some (.pointer q)) (hy:ev g y=some (.pointer none)):PV P g (.binOp .eql t x y ty) (.bool q.isNone):=by
 intro o a w n ho ha; unfold execOp
 have e:(Op.equal t (.pointer q) (.pointer none)).run P w=.ok q.isNone w:=by
  show (Op.equalIn (9999+1) t _ _).run P w=_
  unfold Op.equalIn
  cases q<;>simp [run_underlying hu.out]
 have hg:(eqGuard .eql t x y (.pointer q) (.pointer none)).run P w=.ok () w:=by unfold eqGuard; simp
 have hb:(binOp .eql t (.pointer q) (.pointer none)).run P w=.ok (.bool q.isNone) w:=by simp only [binOp]; simp [e]
 simp only [ho,ha.ev hx,ha.ev hy,Sem.run_bind,hg,Result.andThen_ok,hb,Sem.run_pure]
theorem kY {t e ty:TypeId} [hu:Und P t (.pointer e)] {x y:Operand} {q:Option Addr} (hx:ev g x=some (.pointer q)) (hy:ev g y=some (.pointer none)):PV P g (.binOp .neq t x y ty) (.bool q.isSome):=by
 intro o a w n ho ha; unfold execOp
 have e:(Op.equal t (.pointer q) (.pointer none)).run P w=.ok q.isNone w:=by
  show (Op.equalIn (9999+1) t _ _).run P w=_
  unfold Op.equalIn
  cases q<;>simp [run_underlying hu.out]
 have hg:(eqGuard .neq t x y (.pointer q) (.pointer none)).run P w=.ok () w:=by unfold eqGuard; simp
 have hb:(binOp .neq t (.pointer q) (.pointer none)).run P w=.ok (.bool q.isSome) w:=by simp only [binOp]; cases q<;>simp [e]
 simp only [ho,ha.ev hx,ha.ev hy,Sem.run_bind,hg,Result.andThen_ok,hb,Sem.run_pure]
end
theorem zdS {G G' : Prop} (h : G') (f : Zh G'→G:=by intro h; (repeat (first|refine zF ?_|refine zB ?_|refine zK M M M ?_|refine zY M M M M M ?_|refine yM M M M M M ?_|refine uI M M M ?_)); exact h.o) : G:=f ⟨h⟩
theorem zdT {G G' : Prop} (h : G') (f : Zh G'→G:=by intro h; (repeat (first|refine zB ?_|refine zE ?_|refine zK M M M ?_|refine zY M M M M M ?_|refine yM M M M M M ?_|refine zI M ?_|refine kC M M (by omega) M M ?_|refine vU M (by assumption) M M M M ?_)); exact h.o) : G:=f ⟨h⟩
section
variable (w0:World) (X:Hp) (b tb:Nat) (c:Cl) (S:Hp) (n:Nat)
theorem nexting_resolve {c:Cl} {d:Dbt} {l:List Dbt} (v:Int) (hk:c.kind≠9) (hd:c.doubts=d::l):nextF c v=vJ c d:=by
 unfold nextF; rw [if_neg hk,hd]
theorem nexting_none {c:Cl} (v:Int) (hk:c.kind≠9) (hd:c.doubts=[]):nextF c v=jC c 0:=by
 unfold nextF; rw [if_neg hk,hd]
theorem coming_spec (hS:kT w0 X b tb c S) (hZ:Sz n c) (hn:n+200≤100000000) (hF:xG c) (v:Int) (hv:I64 v) (hph:c.own=true∨(c.own=false∧∃ d∈c.doubts,d.id=c.about)) :
  yO Tryz.prog w0 58 [pB b,.int .i64 v] (X+S) (fun r h'=>kP w0 X b tb (bM c v) h'):=by
 have hdrop:=drop_spec w0 X b tb c S n hS hZ.bd (by omega)
 have hZ1:Sz n { kR c with coord:=none }:=hZ.clear
 have hF1:xG { kR c with coord:=none }:=hF.clear
 refine zN Tryz.func58 M Tryz.ntmps58 Tryz.results58 M fun fr=>?_
 refine zaV ?_
 refine zX M M (zQ M M M) hdrop ?_
 clear hdrop hS
 rintro _ _ ⟨S1,hS1,rfl⟩
 obtain ⟨⟨vmem,vr0,vsets,vmr,vg,ve,vd,vrq,vop,vow,vw,vco,vou,van⟩,ps,hG,hE,hD,hR,hT,hK,hO,P,rfl⟩:=hS1
 have hP:xT w0 X b { kR c with coord:=none } ⟨vmem,vr0,vsets,vmr,vg,ve,vd,vrq,vop,vow,vw,.pointer none,vou,van⟩ tb ps hG hE hD hR hT 0 hO :=
  xT.mk P.mem P.rngs0 P.sets P.mr P.guess P.ended P.dbts P.reqs P.opn P.own P.txn P.waits ⟨rfl,rfl⟩ P.out P.ansd
 have hS2:kT w0 X b tb { kR c with coord:=none } _:=⟨_,ps,hG,hE,hD,hR,hT,0,hO,hP,rfl⟩
 have hvo:vow=wK c.own tb:=P.own
 cases how:c.own
 rotate_left
 ·have e0:bM c v=uM (jZ { kR c with coord:=none } c.cur.id (xH c.cur) v) (cameF v):=by unfold bM; rw [if_pos how]; rfl
  rw [e0]
  clear e0
  rw [how] at hvo
  simp only [wK,cond_true] at hvo
  subst hvo
  have hT2:uL w0 X tb c.cur hT:=by
   rcases P.txn with h|h
   ·exact h
   ·have:=h.2.1; rw [show (kR c).own=c.own from rfl,how] at this; cases this
  have hca:=hZ.cur.asked
  have hcp:=hZ.cur.parts
  have hgs:=bJ w0 X tb c.cur hT hT2 (by omega)
  obtain ⟨vr,va,vw',ap,cp,hr,ha,hw,rfl,k1,k2,k3,k4⟩:=id hT2
  refine zbO ?_
  refine yG M M (kY M M) ?_
  repeat (first|refine zF ?_|refine zE ?_|refine zJ M ?_)
  refine yB [6,8] [0,1,2,3,4,5,7,6,8] (by kernel_rfl) M (by kernel_rfl) (by kernel_rfl) ?_
  refine zaF ?_
  have hgl:=vF hF
  refine xU M M M M (zQ M M M) hgs (xF.all _) ?_
  rintro _ _ ⟨k5,o5,rfl⟩
  obtain ⟨a5,c5,rfl⟩:=o5.shape
  refine ⟨zka,?_⟩
  skip
  have htd:=uR w0 (X+k5) b tb { kR c with coord:=none } _ n (hS2.mono M) hZ1.bd c.cur.id v (xH c.cur) a5 c5 (o5.rd (X:=0) (R:=X)) (by omega) hF1.groups hZ.cur.nums.1 hv
  refine xU M M M M (zQ M M M) htd (.drop (by kernel_rfl) .nil) ?_
  rintro _ _ ⟨S2,h2,rfl⟩
  refine ⟨trivial,?_⟩
  have hkp:=vB (uC { kR c with coord:=none } c.cur.id (xH c.cur) v hF1.groups)
  generalize jZ { kR c with coord:=none } c.cur.id (xH c.cur) v=c2 at *
  have how2:c2.own=true:=by rw [hkp.2.2.2.1]; exact how
  repeat (refine yI ?_)
  refine zaV ?_
  refine zX M M (zQ M M M) (came_spec w0 v) ?_
  rintro _ _ ⟨rfl,rfl⟩
  skip
  refine zX M M (zQ M M M) (qO w0 (X+k5) b tb c2 S2 h2 (cameF v) (fun _=>how2)) ?_
  rintro _ _ hA
  refine zbI ?_
  exact ⟨[],_,_,trivial,hA.after.trans,yJ.out⟩
 ·have e0:bM c v=nextF (uJ (kE c) (gN c) v) v:=by unfold bM; rw [if_neg (by rw [how]; simp)]
  rw [e0]
  clear e0
  rw [how] at hvo
  simp only [wK,cond_false] at hvo
  subst hvo
  obtain ⟨d0,hd0,hda⟩:∃ d∈c.doubts,d.id=c.about:=by
   rcases hph with h|h
   ·rw [how] at h; cases h
   ·exact h.2
  rcases uF (fun d:Dbt=>decide (d.id=c.about)) c.doubts with ⟨-,hi2⟩|⟨i,hi,hi1,hi2,hi3⟩
  ·have:=hi2 d0 hd0; simp [hda] at this
  have hdf:gN c=c.doubts[i]:=by unfold gN; rw [find_hit hi hi2 hi3]; rfl
  have hdm:=List.getElem_mem hi
  have hdb:yO Tryz.prog w0 123 [pB b] (X+_) (fun r h'=>r=.int .i64 (qG (fun d=>decide (d.id=c.about)) c.doubts)∧X+_=h'):=doubting_spec w0 X b tb { kR c with coord:=none } _ n hS2 hZ1 (by omega)
  rw [hi1] at hdb
  have hOd:OwL w0 X c.doubts vd hD:=P.dbts
  obtain ⟨ad,cd,rfl⟩:=hOd.shape
  obtain ⟨bq,oq,rfl,e,hre,hat⟩:=OwL.at hOd hi
  obtain ⟨a1,c1,a2,c2,rfl,hd1,hd2⟩:=id hre
  have hdz:c.doubts[i].groups.length≤5:=hZ.db.2 _ hdm
  have hdn:=newOk_parts (hF.doubts _ hdm).2
  have hdg:=(hF.doubts _ hdm).1
  rw [hdf]
  clear hdf hi2 hi3 hi1 hd0 hda
  generalize c.doubts[i]=d at *
  have hid:I64 d.id:=by unfold I64; omega
  have hdl:=hZ.db.1
  refine zbO ?_
  refine yG M M (kY M M) ?_
  refine zbP ?_
  refine dX [5,8,9] [0,1,2,3,4,5,6,7,8,9] 8 5 [.int .i64 0,.slice none 0 0,.slice none 0 0] 195 (by kernel_rfl) M (by kernel_rfl) (by kernel_rfl) (by kernel_rfl) ?_
  repeat (first|refine V_of M M (fun _=>rfl) M M M M ?_|refine V_pure M (zZ M M M) (fun _=>zZ M M M) M M M M ?_|refine V_load M M (fun _=>rfl) (zG M (zS M)) M M M M ?_)
  refine V_call M M M M M (zQ M M M) (fun _=>zQ M M M) hdb (xF.all _) M M M M ?_
  rintro _ _ ⟨rfl,rfl⟩
  refine ⟨zka,?_⟩
  repeat (first|refine V_pure M (wT M M (by omega)) (fun _=>wT M M (by omega)) M M M M ?_|refine V_load M M (fun _=>rfl) (zH M (by assumption) M) M M M M ?_)
  refine V_now M M M M (fun b5=>?_)
  skip
  refine xS M M M M (wH (vs:=[_,_,_]) M M M M (c:=[_,_,_]) (Nat.le_of_ble_eq_true M) (c':=[_,_,_]) M) (xF.all _) ?_
  rintro _ _ rfl
  refine ⟨zka,?_⟩
  repeat (refine yI ?_)
  refine zdS ?_
  refine zX M M (zQ M M M) (deleteFuncDbt_spec w0 (X+pt b5 (.cells [.int .i64 d.id,.slice a1 d.parts.length c1,.slice a2 d.groups.length c2].toArray 195 (0,0))) c.doubts _ hD 125 [pB b5] (fun x=>decide (x.id=d.id)) (hOd.mono M) (by omega) (fun Y x e hx he=>by
   obtain ⟨e1,e2,e3,e4,rfl,-,-⟩:=he
   exact come1_spec w0 _ x e1 e3 e2 e4 b5 d.id _ _ jI)) ?_
  rintro v6 _ ⟨h6,ho6,rfl⟩
  rw [show (c.doubts.filter fun x=>!decide (x.id=d.id))=c.doubts.filter fun x=>decide (x.id≠d.id) from congrArg (fun f=>c.doubts.filter f) (funext fun x=>by by_cases h:x.id=d.id<;>simp [h])] at ho6
  obtain ⟨a6,c6,rfl⟩:=ho6.shape
  refine zbO ?_
  have P3:=hP.mono (L:=X+pt b5 (.cells [.int .i64 d.id,.slice a1 d.parts.length c1,.slice a2 d.groups.length c2].toArray 195 (0,0))) (R:=pt b5 (.cells [.int .i64 d.id,.slice a1 d.parts.length c1,.slice a2 d.groups.length c2].toArray 195 (0,0))) M
  have hP4:xT w0 (X+pt b5 (.cells [.int .i64 d.id,.slice a1 d.parts.length c1,.slice a2 d.groups.length c2].toArray 195 (0,0))) b { kR c with coord:=none,doubts:=c.doubts.filter fun x=>decide (x.id≠d.id) } ⟨vmem,vr0,vsets,vmr,vg,ve,.slice a6 _ c6,vrq,vop,.pointer none,vw,.pointer none,vou,van⟩ tb ps hG hE h6 hR hT 0 hO :=
   xT.mk P3.mem P3.rngs0 P3.sets P3.mr P3.guess P3.ended ho6 P3.reqs P3.opn P3.own P3.txn P3.waits ⟨rfl,rfl⟩ P3.out P3.ansd
  have hZ4:Sz n { kR c with coord:=none,doubts:=c.doubts.filter fun x=>decide (x.id≠d.id) }:=hZ1.dbts ⟨Nat.le_trans (List.length_filter_le _ _) hZ.db.1,fun x hx=>hZ.db.2 x (List.mem_filter.1 hx).1⟩
  have hF4:xG { kR c with coord:=none,doubts:=c.doubts.filter fun x=>decide (x.id≠d.id) }:=⟨hF1.guess,hF1.reqs,hF1.rngs,hF1.parts,hF1.asked,fun x hx=>hF.doubts x (List.mem_filter.1 hx).1,(fun h=>by cases h),hF.nmem⟩
  have htd:=uR w0 _ b tb { kR c with coord:=none,doubts:=c.doubts.filter fun x=>decide (x.id≠d.id) } _ n ⟨_,ps,hG,hE,h6,hR,hT,0,hO,hP4,rfl⟩ hZ4.bd d.id v d.groups a2 c2 (hd2.mono M) (by omega) hdg hid hv
  refine zX M M (zQ M M M) htd ?_
  rintro _ _ ⟨S5,hS5,rfl⟩
  have hZ5:Sz (n+5) (uJ (kE c) d v):=hZ1.solved (by omega) d hdz hid hv
  have had:gU { kR c with coord:=none,doubts:=c.doubts.filter fun x=>decide (x.id≠d.id) } (uJ (kE c) d v):=uC _ _ _ _ hdg
  have hF5:=hF4.adds had
  have hS5':kT w0 (X+pt b5 (.cells [.int .i64 d.id,.slice a1 d.parts.length c1,.slice a2 d.groups.length c2].toArray 195 (0,0))) b tb (uJ (kE c) d v) S5:=hS5
  clear hS5 htd hP4 P3 hZ4 hF4 had hP hS2 P hdb
  generalize uJ (kE c) d v=c4 at *
  obtain ⟨⟨um,ur0,us,umr,ug,ue,ud,urq,uop,uow,uw,uco,uou,uan⟩,qs,jG,jE,jD,jR,jT,jK,jO,P2,rfl⟩:=id hS5'
  have hOd2:OwL w0 _ c4.doubts ud jD:=P2.dbts
  obtain ⟨ad2,cd2,rfl⟩:=hOd2.shape
  refine zbX ?_
  refine yF M M (yK M M) (fun h=>?_) (fun h=>?_)
  ·rw [show nextF c4 v=jC c4 (cameF v) by unfold nextF; rw [if_pos h]]
   refine zaU ?_
   refine zX M M (zQ M M M) (came_spec w0 v) ?_
   rintro _ _ ⟨rfl,rfl⟩
   skip
   refine zX M M (zQ M M M) (xL w0 _ b tb c4 _ hS5' (cameF v)) ?_
   rintro _ _ hA
   repeat (refine zE ?_)
   exact ⟨[],_,_,trivial,hA.after.trans,yJ.out⟩
  ·refine zcB ?_
   refine yF M M (yK M M) (fun h2=>?_) (fun h2=>?_)
   ·rw [nexting_none v h (List.eq_nil_of_length_eq_zero (by omega))]
    refine zaU ?_
    refine zX M M (zQ M M M) (xL w0 _ b tb c4 _ hS5' 0) ?_
    rintro _ _ hA
    repeat (refine zE ?_)
    exact ⟨[],_,_,trivial,hA.after.trans,yJ.out⟩
   ·have hx:0<c4.doubts.length:=by omega
    have hd:c4.doubts=c4.doubts[0]::c4.doubts.drop 1:=by rw [← List.drop_eq_getElem_cons hx,List.drop_zero]
    rw [nexting_resolve v h hd]
    obtain ⟨bq2,oq2,rfl,e,hre2,hat2⟩:=OwL.at hOd2 hx
    obtain ⟨f1,g1,f2,g2,rfl,q1,q2⟩:=id hre2
    have hn2:=(hF5.doubts _ (List.getElem_mem hx)).2
    generalize c4.doubts[0]=d2 at *
    refine zdT ?_
    refine zX M M (zQ M M M) (resolving_spec w0 _ b tb c4 _ (n+5) hS5' hZ5 (by omega) d2 hn2 f1 f2 g1 g2 q1) ?_
    rintro _ _ hA
    repeat (refine zE ?_)
    exact ⟨[],_,_,trivial,hA.trans,yJ.out⟩
end
theorem cmpI_ltz {a b:Int}:cmpI a b<0↔a<b:=by
 unfold cmpI
 by_cases h:a<b
 ·rw [if_pos h]; omega
 ·rw [if_neg h]; split<;>omega
theorem byGroup_eq {l l2:List Rng} (hp:l2.Perm l) (hs:l2.Pairwise (fun a b=>¬ cmpI b.group a.group<0)) (hn:(l.map (·.group)).Nodup):l2=byGroup l:=by
 unfold byGroup
 have h2:=List.pairwise_mergeSort (le:=fun a b:Rng=>decide (a.group≤b.group)) (fun a b c h1 h2=>by simp at h1 h2 ⊢; omega) (fun a b=>by simp; omega) l
 have h1:l2.Pairwise (fun a b=>decide (a.group≤b.group)=true):=hs.imp (fun {a b} h=>by rw [cmpI_ltz] at h; simp; omega)
 refine List.Perm.eq_of_pairwise (le:=fun a b:Rng=>decide (a.group≤b.group)=true) ?_ h1 h2 (hp.trans (List.mergeSort_perm _ _).symm)
 intro a b ha hb hab hba
 have ha':a∈l:=hp.mem_iff.1 ha
 have hb':b∈l:=List.mem_mergeSort.1 hb
 have hg:a.group=b.group:=by simp at hab hba; omega
 have hn2:=List.pairwise_map.1 (show ((l.map (·.group)).Pairwise (·≠·)) from hn)
 obtain ⟨i,hi⟩:=List.mem_iff_getElem?.1 ha'
 obtain ⟨j,hj⟩:=List.mem_iff_getElem?.1 hb'
 obtain ⟨hil,hie⟩:=List.getElem?_eq_some_iff.1 hi
 obtain ⟨hjl,hje⟩:=List.getElem?_eq_some_iff.1 hj
 rcases Nat.lt_trichotomy i j with h|h|h
 ·have:=List.pairwise_iff_getElem.1 hn2 i j hil hjl h
  rw [hie,hje] at this; exact absurd hg this
 ·subst h; rw [← hie,← hje]
 ·have:=List.pairwise_iff_getElem.1 hn2 j i hjl hil h
  rw [hie,hje] at this; exact absurd hg.symm this
theorem ordr_group :Ordr (ltc (fun a b:Rng=>cmpI a.group b.group)) :=
 ⟨fun {a b} h=>by simp only [ltc,cmpI_ltz] at h ⊢; omega,fun {a b c} h1 h2=>by simp only [ltc,cmpI_ltz] at h1 h2 ⊢; omega⟩
theorem filter_take_succ {α:Type} (p:α→Bool) (l:List α) {i:Nat} (hi:i<l.length):(l.take (i+1)).filter p=(l.take i).filter p++(if p l[i]=true then [l[i]] else []):=by
 rw [List.take_succ_eq_append_getElem hi,List.filter_append]
 congr 1
 by_cases h:p l[i]=true<;>simp [h]
theorem filter_take_le {α:Type} (p:α→Bool) (l:List α) (i:Nat):((l.take i).filter p).length≤l.length:=by
 refine Nat.le_trans (List.length_filter_le _ _) ?_
 rw [List.length_take]; omega
theorem partsF_snoc (t:Txn) (l:List Rng) (r:Rng) (c:Cl):dG t (l++[r]) c=partF (dG t l c) (kG t r) r.group 0:=by unfold dG; rw [List.foldl_append]; rfl
def CoordIs (w0:World) (o:Option Coo) (v:Value) (K:Hp):Prop:=match o with
 | none=>v=.pointer none∧K=0
 | some k=>∃ kb,v=pB kb∧uW w0 kb k K
theorem CoordIs.shape {w0:World} {o:Option Coo} {v:Value} {K:Hp} (h:CoordIs w0 o v K):∃ q,v=.pointer q:=by
 cases o with
 | none=>exact ⟨_,h.1⟩
 | some k=>obtain ⟨kb,h,-⟩:=h; exact ⟨_,h⟩
theorem coNew2_spec (w0:World) (X:Hp) (me txn:Int) (parts:List Int) (a:Option Addr) (cp:Nat) (acc:Int) (hv:RdL w0 X (.slice a parts.length cp) parts) (hl:parts.length≤1000000000) :
  yO Tryz.prog w0 213 [.int .i64 me,.int .i64 txn,.slice a parts.length cp,.int .i64 acc] X
   (fun r h'=>∃ v e K,r=.tuple #[v,.int .i64 e]∧CoordIs w0 (newO me txn parts acc) v K∧X+K=h'):=by
 refine (coNew_spec w0 X me txn parts a cp acc hv hl).mono ?_
 rintro r h' (⟨h1,rfl,rfl⟩|⟨h1,kb,K,rfl,hK,rfl⟩)
 ·exact ⟨_,_,0,rfl,by unfold newO; rw [if_neg (by rw [h1]; simp)]; exact ⟨rfl,rfl⟩,yA _⟩
 ·exact ⟨_,_,K,rfl,by unfold newO; rw [if_pos h1]; exact ⟨kb,rfl,hK⟩,rfl⟩
theorem zdU {G G' : Prop} (h : G') (f : Zh G'→G:=by intro h; (repeat (first|refine zF ?_|refine zR ?_|refine zB ?_|refine zE ?_|refine zK M M M ?_|refine zY M M M M M ?_|refine yM M M M M M ?_|refine yT M M M ?_|refine xD M M M (c':=(_::_::_::_::_::_::_::_::_::_::_::_::_::_::_::_::_::_::_::_::_::_::_::_::_::_::_::_::_::_::_::_::_::_::_::_::_::_::[])) M M M M ?_)); exact h.o) : G:=f ⟨h⟩
section
variable (w0:World) (X:Hp) (b tb:Nat) (c:Cl) (S:Hp) (n:Nat)
theorem preparing_spec (hS:kT w0 X b tb c S) (hZ:Sz n c) (hn:n+100≤100000000) (hF:xG c) (ht:c.opn=true∨c.own=true) :
  yO Tryz.prog w0 154 [pB b,pB tb] (X+S) (fun r h'=>kP w0 X b tb (gE c) h'):=by
 obtain ⟨⟨vmem,vr0,vsets,vmr,vg,ve,vd,vrq,vop,vow,vw,vco,vou,van⟩,ps,hG,hE,hD,hR,hT,hK,hO,P,rfl⟩:=hS
 have hT2:uL w0 X tb c.cur hT:=by
  rcases P.txn with h|h
  ·exact h
  ·rcases ht with h2|h2
   ·rw [h.1] at h2; cases h2
   ·rw [h.2.1] at h2; cases h2
 obtain ⟨am,cm,hvm,hrm⟩:=P.mr
 simp only at hvm
 subst hvm
 have hml:=hZ.m.len
 have htz:=hZ.cur
 have hT0:=hT2
 obtain ⟨vr,va,vw',ap,cp,hr,ha,hw,rfl,k1,k2,k3,k4⟩:=hT2
 have hfl:=fun i=>filter_take_le (ofF c.cur) c.m.rngs i
 refine zN Tryz.func154 M Tryz.ntmps154 Tryz.results154 M fun fr=>?_
 refine zdU ?_
 refine yN c.m.rngs.length (fun i g L=>∃ (ao:Option Addr) (co:Nat) (ho R:Hp),g=[(0,pB b),(1,pB tb),(4,.slice ao ((c.m.rngs.take i).filter (ofF c.cur)).length co),(19,.slice am c.m.rngs.length cm),(20,.int .i64 c.m.rngs.length),(21,.int .i64 i)] ∧
  OwL w0 X ((c.m.rngs.take i).filter (ofF c.cur)) (.slice ao ((c.m.rngs.take i).filter (ofF c.cur)).length co) ho ∧
  L=cliC b (clL { c with own:=true } ⟨vmem,vr0,vsets,.slice am c.m.rngs.length cm,vg,ve,vd,vrq,vop,pB tb,vw,vco,vou,van⟩)+(X+(txnC tb (.int .i64 c.cur.id::.int .i64 c.cur.age::vr::va::vw'::.slice ap c.cur.parts.length cp::.int .i64 c.cur.slo::.int .i64 c.cur.shi::[])+(hr+(ha+hw)))+(hG+(hE+(hD+(hR+(hK+hO)))))+fr)+ho+R) _
  ⟨none,0,0,_,rfl,OwL.nil _ _,by rw [show ∀ a b:Hp,a+0+b=a+b from fun a b=>by rw [yA]]; exact yJ.out⟩ zsb ?_
 rintro i g L hi ⟨ao,co,ho,R,rfl,hof,rfl⟩
 refine zaH ?_
 refine yF M M (yS M M) (fun n1=>?_) (fun n1=>?_)
 ·have hx:i<c.m.rngs.length:=by omega
  have hfi:=hfl i
  obtain ⟨bq,oq,rfl,e,rfl,hat⟩:=hrm.at hx
  have hs:=filter_take_succ (ofF c.cur) c.m.rngs hx
  generalize c.m.rngs[i]=r at *
  repeat (first|refine zF ?_|refine zR ?_|refine zB ?_|refine zE ?_|refine zK M M M ?_|refine zP ?_|refine zJ M ?_|refine kC M M (by omega) M M ?_|refine vU M (by assumption) M M M M ?_|refine xJ M (vs:=[_,_,_,_]) M M M M M ?_|refine yY M (vs:=[_,_,_,_]) M M M M (c':=[_,_,_,_]) M M ?_|refine xK (c:=[_,_,_,_]) M M M (fun _=>?_))
  refine zX M M (zQ M M M) (offTxn_spec w0 X tb c.cur _ hT0 r (by have:=htz.reads.1; have:=htz.writes.1; omega)) ?_
  rintro _ _ ⟨rfl,rfl⟩
  cases hmi:ofF c.cur r
  ·rw [hmi,if_neg (by simp),List.append_nil] at hs
   refine zaJ ?_
   refine ⟨hx,_,?_,ao,co,ho,_,rfl,by rw [hs]; exact hof,yJ.out⟩
   rw [hs]
   exact zsb
  ·rw [hmi,if_pos M] at hs
   repeat (first|refine zB ?_|refine zE ?_|refine zK M M M ?_|refine zJ M ?_|refine xJ M (vs:=[_,_,_,_]) M M M M M ?_|refine vM (vs:=[_]) (cells:=[_,_,_,_]) M M M M M M (fun _=>?_))
   refine kF M M (xR (X:=X) (h:=ho) (ns:=[r]) M M hof (wQ M) (kU.one M) M M M M M (by rw [List.length_singleton]; omega)) ?_
   rintro v5 _ ⟨h5,ho5,rfl⟩
   rw [← hs] at ho5
   obtain ⟨a5,c5,rfl⟩:=ho5.shape
   refine zaI ?_
   exact ⟨hx,_,zsb,a5,c5,h5,_,rfl,ho5,yJ.out⟩
 ·obtain rfl:i=c.m.rngs.length:=by omega
  rw [List.take_length] at hof ⊢
  have hfi:=hfl c.m.rngs.length
  rw [List.take_length] at hfi
  have hnd:((c.m.rngs.filter (ofF c.cur)).map (·.group)).Nodup:=List.Pairwise.sublist (List.Sublist.map _ List.filter_sublist) hZ.m.nodup
  have hbg:∀ {l2:List Rng},l2.Perm (c.m.rngs.filter (ofF c.cur))→l2.Pairwise (fun a b=>¬ cmpI b.group a.group<0)→l2=prepL c:=fun h1 h2=>byGroup_eq h1 h2 hnd
  have hsort:=sortFuncRng_spec w0 X 229 [] (fun a b=>cmpI a.group b.group) (fun Y x y e f he hf=>prepare1_spec w0 X x y e f Y Y he hf) ordr_group (c.m.rngs.filter (ofF c.cur)) _ ho hof (by omega)
  refine zbB ?_
  refine zX M M (zQ M M M) hsort ?_
  rintro _ _ ⟨l2,h2,hl1,hl2,hol,rfl⟩
  have hlen2:=hl1.length_eq
  obtain rfl:=hbg hl1 hl2
  rw [← hlen2] at hol hfi ⊢
  clear hbg hl1 hl2 hnd hof hsort
  have hlm:∀ r∈prepL c,r∈c.m.rngs:=fun r hr=>prepL_mem hr
  unfold gE
  generalize prepL c=l2 at *
  repeat (first|refine zF ?_|refine zR ?_|refine zB ?_|refine zE ?_|refine zK M M M ?_|refine zY M M M M M ?_|refine yT M M M ?_|refine xD M M M (c':=[_,_,_,_,_,_,_,_]) M M M M ?_)
  refine yN l2.length (fun i g L=>∃ (a2:Option Addr) (c2:Nat) (hp R:Hp),g=[(0,pB b),(1,pB tb),(4,.slice ao l2.length co),(38,.slice ao l2.length co),(39,.int .i64 l2.length),(40,.int .i64 i)] ∧
   OwL w0 0 ((l2.take i).map (·.group)) (.slice a2 ((l2.take i).map (·.group)).length c2) hp ∧
   L=cliC b (clL { c with own:=true } ⟨vmem,vr0,vsets,.slice am c.m.rngs.length cm,vg,ve,vd,vrq,vop,pB tb,vw,vco,vou,van⟩)+(X+(txnC tb (.int .i64 c.cur.id::.int .i64 c.cur.age::vr::va::vw'::.slice a2 ((l2.take i).map (·.group)).length c2::.int .i64 c.cur.slo::.int .i64 c.cur.shi::[])+(hr+(ha+hw)))+(hG+(hE+(hD+(hR+(hK+hO)))))+fr)+h2+hp+R) _
   ⟨none,0,0,_,rfl,OwL.nil _ _,by rw [show ((l2.take 0).map (·.group)).length=0 from rfl,show ∀ a b:Hp,a+0+b=a+b from fun a b=>by rw [yA]]; exact yJ.out⟩ zsb ?_
  rintro i g L hi ⟨a2,c2,hp,R2,rfl,hop,rfl⟩
  have hil:((l2.take i).map (·.group)).length≤l2.length:=by rw [List.length_map,List.length_take]; omega
  refine zaH ?_
  refine yF M M (yS M M) (fun n1=>?_) (fun n1=>?_)
  ·have hx:i<l2.length:=by omega
   obtain ⟨bq,oq,rfl,e,rfl,hat⟩:=OwL.at hol hx
   have hs:(l2.take (i+1)).map (·.group)=(l2.take i).map (·.group)++[l2[i].group]:=by rw [List.take_succ_eq_append_getElem hx,List.map_append]; rfl
   generalize l2[i]=r at *
   repeat (first|refine zF ?_|refine zR ?_|refine zB ?_|refine zE ?_|refine zP ?_|refine zJ M ?_|refine kC M M (by omega) M M ?_|refine vU M (by assumption) M M M M ?_|refine yY M (vs:=[_,_,_,_]) M M M M (c':=[_,_,_,_]) M M ?_|refine xK (c:=[_,_,_,_]) M M M (fun _=>?_))
   refine yB [7,8,11] [0,1,2,3,4,5,6,7,8,9,10,11] (by kernel_rfl) M (by kernel_rfl) (by kernel_rfl) ?_
   refine zaF ?_
   refine xS M M M M (xV (vs:=[_]) (cells:=[_]) M M M M) (xF.all _) ?_
   rintro _ _ ⟨bn,rfl,rfl⟩
   refine ⟨zka,?_⟩
   skip
   refine xS M M M M (xR (X:=0) (ns:=[r.group]) (h:=hp) M M hop (wQ M) (kU.one M) M M M M M (by rw [List.length_singleton]; omega)) (xF.all _) ?_
   rintro v5 _ ⟨h5,ho5,rfl⟩
   rw [← hs] at ho5
   obtain ⟨a5,c5,rfl⟩:=ho5.shape
   refine ⟨zka,?_⟩
   refine zaO ?_
   refine xS M M M M (kA M M M M M (c':=[_,_,_,_,_,_,_,_]) M) (.keep (.drop (by kernel_rfl) .nil)) ?_
   rintro _ _ rfl
   refine ⟨zka,?_⟩
   repeat (refine yI ?_)
   refine zaI ?_
   exact ⟨hx,_,zsb,a5,c5,h5,_,rfl,ho5,yJ.out⟩
  ·obtain rfl:i=l2.length:=by omega
   rw [List.take_length] at hop hil ⊢
   have hrp:RdL w0 hp (.slice a2 (l2.map (·.group)).length c2) (l2.map (·.group)):=hop.rdh
   have hnew:=coNew2_spec w0 hp c.addr c.cur.id (l2.map (·.group)) a2 c2 c.accs hrp (by omega)
   refine zbU ?_
   refine yB [18,24] [0,1,2,3,4,5,6,7,8,9,10,11,12,13,14,15,16,17,18,19,20,21,22,23,24] (by kernel_rfl) M (by kernel_rfl) (by kernel_rfl) ?_
   refine zaF ?_
   refine xU M M M M (zQ M M M) hnew (xF.all _) ?_
   rintro _ _ ⟨vk,ek,K,rfl,hK2,rfl⟩
   obtain ⟨qk,rfl⟩:=hK2.shape
   refine ⟨zka,?_⟩
   refine zaO ?_
   refine xS M M M M (kA M M M M M (c':=(_::_::_::_::_::_::_::_::_::_::_::_::_::_::_::_::_::_::_::_::_::_::_::_::_::_::_::_::_::_::_::_::_::_::_::_::_::_::[])) M) (xF.all _) ?_
   rintro _ _ rfl
   refine ⟨zka,?_⟩
   repeat (refine yI ?_)
   refine zdU ?_
   have P2:=P.mono (L:=X+hp) (R:=hp) M
   have hT3:uL w0 (X+hp) tb { c.cur with parts:=l2.map (·.group) } _:=⟨vr,va,vw',a2,c2,hr,ha,hw,rfl,k1.mono M,k2,k3.mono M,hop.rd (X:=0) (R:=X)⟩
   have hP:xT w0 (X+hp) b { c with own:=true,cur:={ c.cur with parts:=l2.map (·.group) },coord:=newO c.addr c.cur.id (l2.map (·.group)) c.accs,about:=c.cur.id } ⟨vmem,vr0,vsets,.slice am c.m.rngs.length cm,vg,ve,vd,vrq,vop,pB tb,vw,.pointer qk,vou,van⟩ tb ps hG hE hD hR _ K hO :=
    xT.mk P2.mem P2.rngs0 P2.sets P2.mr P2.guess P2.ended P2.dbts P2.reqs P2.opn M (.inl hT3) P2.waits hK2 P2.out P2.ansd
   have hZ2:Sz n (prepC c l2):=hZ.prep l2 (by omega)
   have hS2:kT w0 (X+hp) b tb (prepC c l2) _:=(⟨_,ps,hG,hE,hD,hR,_,K,hO,hP,rfl⟩:kT w0 (X+hp) b tb { c with own:=true,cur:={ c.cur with parts:=l2.map (·.group) },coord:=newO c.addr c.cur.id (l2.map (·.group)) c.accs,about:=c.cur.id } _)
   have hep:∀ r∈l2,I64 r.epoch:=fun r hr=>hZ.m.ep r (hlm r hr)
   have hgp:∀ r∈l2,grp r.group:=fun r hr=>hF.rngs r (hlm r hr)
   have hl2:l2.length≤4:=by omega
   have hcur:(prepC c l2).cur={ c.cur with parts:=l2.map (·.group) }:=rfl
   have hown:(prepC c l2).own=true:=rfl
   refine yN l2.length (fun i g L=>∃ (E S' R:Hp),g=[(0,pB b),(1,pB tb),(87,.slice ao l2.length co),(88,.int .i64 l2.length),(89,.int .i64 i)]∧kT w0 (X+hp+E) b tb (dG (prepC c l2).cur (l2.take i) (prepC c l2)) S'∧L=X+hp+E+S'+fr+h2+R) _
    ⟨0,_,_,rfl,by rw [yA]; exact hS2,by rw [yA (X+hp)]; exact yJ.out⟩ zsb ?_
   clear hP P2 P hS2 hnew hT0 hT3
   generalize prepC c l2=c1 at *
   rintro i g L hi ⟨E,S',R3,rfl,hS',rfl⟩
   refine zaH ?_
   refine yF M M (yS M M) (fun n1=>?_) (fun n1=>?_)
   ·have hx:i<l2.length:=by omega
    have hs:=partsF_snoc c1.cur (l2.take i) l2[i] c1
    rw [← List.take_succ_eq_append_getElem hx] at hs
    obtain ⟨bq,oq,rfl,e,rfl,hat⟩:=OwL.at hol hx
    have hrg:=hgp _ (List.getElem_mem hx)
    have hBi:=(Sz.parts hZ2.cur (by omega) (l2.take i) (fun r hr=>hep r (List.mem_of_mem_take hr)) hZ2 (by rw [List.length_take]; omega)).bd
    obtain ⟨sq,rq,eo⟩:=parts_only c1.cur (l2.take i) c1
    have hc2:(dG c1.cur (l2.take i) c1).cur=c1.cur:=by rw [eo]
    have ho2:(dG c1.cur (l2.take i) c1).own=true:=by rw [eo]; exact hown
    clear eo
    generalize dG c1.cur (l2.take i) c1=c2 at *
    generalize l2[i]=r at *
    obtain ⟨⟨um,ur0,us,umr,ug,ue,ud,urq,uop,uow,uw,uco,uou,uan⟩,qs,jG,jE,jD,jR,jT,jK,jO,P2,rfl⟩:=id hS'
    have hT4:uL w0 (X+hp+E) tb c1.cur jT:=by
     rcases P2.txn with h|h
     ·rw [hc2] at h; exact h
     ·rw [h.2.1] at ho2; cases ho2
    repeat (first|refine zF ?_|refine zR ?_|refine zB ?_|refine zE ?_|refine zP ?_|refine zJ M ?_|refine kC M M (by omega) M M ?_|refine vU M (by assumption) M M M M ?_|refine yY M (vs:=[_,_,_,_]) M M M M (c':=[_,_,_,_]) M M ?_|refine xK (c:=[_,_,_,_]) M M M (fun _=>?_))
    refine yB [5,8] [0,1,2,3,4,6,7,5,8] (by kernel_rfl) M (by kernel_rfl) (by kernel_rfl) ?_
    repeat (first|refine yH M M M M M ?_|refine yD M M M M (zZ M M M) ?_|refine yQ M M M M (yE M) (zG M (zS M)) ?_|refine yQ M M M M (yE M) (zL (vs:=[_,_,_,_]) M M M) ?_)
    refine xU M M M M (zQ M M M) (prepare_spec w0 (X+hp+E) b tb c1.cur jT hT4 r (by have:=hZ2.cur.reads.1; have:=hZ2.cur.writes.1; omega)) (xF.all _) ?_
    rintro _ _ ⟨E2,e2,rfl,hre,rfl⟩
    refine ⟨zka,?_⟩
    skip
    refine xU M M M M (zQ M M M) (parting_spec w0 (X+hp+E+E2) b tb c2 _ _ (hS'.mono M) hBi (by rw [List.length_take]; omega) (pB tb) ⟨_,rfl⟩ (kG c1.cur r) e2 hre r.group hrg 0 (by omega)) (xF.all _) ?_
    rintro _ _ ⟨E3,S3,h3,rfl⟩
    refine ⟨zka,?_⟩
    repeat (refine yI ?_)
    refine zaI ?_
    exact ⟨hx,_,zsb,E+E2+E3,S3,_,rfl,by rw [hs,← yZ,← yZ]; exact h3,yJ.out⟩
   ·obtain rfl:i=l2.length:=by omega
    rw [List.take_length] at hS'
    refine zbU ?_
    exact ⟨[],_,_,trivial,⟨hp+E,S',by rw [← yZ]; exact hS',rfl⟩,yJ.out⟩
end
section
variable {P:Program} {g:Env}
theorem pv_neq_nilfunc {t ty:TypeId} {ps rs:Array TypeId} {vr:Bool} [hu:Und P t (.func ps rs vr)] {x y:Operand} {v:Value} {r:Bool} (hx:ev g x=some v) (hy:ev g y=some .nilFunc)
  (hv:(v=.nilFunc∧r=true)∨((∃ a b c,v=.func a b c)∧r=false)):PV P g (.binOp .neq t x y ty) (.bool (!r)):=by
 intro o a w m ho ha; unfold execOp
 have h1:(Op.equal t v .nilFunc).run P w=.ok r w:=run_eqf hu.out 9999 w hv
 have h2:(binOp .neq t v .nilFunc).run P w=.ok (.bool (!r)) w:=by
  rcases hv with ⟨rfl,rfl⟩|⟨⟨a',b',c',rfl⟩,rfl⟩<;>(simp only [binOp]; simp [h1])
 have h3:(eqGuard .neq t x y v .nilFunc).run P w=.ok () w:=by
  rcases hv with ⟨rfl,rfl⟩|⟨⟨a',b',c',rfl⟩,rfl⟩<;>(unfold eqGuard; split<;>simp_all)
 simp only [ho,ha.ev hx,ha.ev hy,Sem.run_bind,h3,Result.andThen_ok,h2,Sem.run_pure]
end
theorem zeZ {G G' : Prop} (h : G') (f : Zh G'→G:=by intro h; (repeat (first|refine zF ?_|refine zB ?_|refine zE ?_|refine zK M M M ?_|refine zY M M M M M ?_|refine yM M M M M M ?_|refine zP ?_|refine zI M ?_|refine xD M M M (c':=(_::_::_::_::_::_::_::_::_::_::_::_::_::_::_::_::_::_::_::_::_::_::_::_::_::_::_::_::_::_::_::_::_::_::_::_::_::_::[])) M M M M ?_|refine wA M (by assumption) M M M M ?_)); exact h.o) : G:=f ⟨h⟩
section
variable (w0:World) (X:Hp) (b tb:Nat) (c:Cl) (S:Hp) (n:Nat)
theorem commitRun_spec (hS:kT w0 X b tb c S) (hZ:Sz n c) (hn:n+100≤100000000) (hF:xG c) (ho:c.opn=true) (p q:Nat) (hp:At w0 X p 0 [pB b]) (hq:At w0 X q 0 [pB tb]) :
  yO Tryz.prog w0 153 [pB p,pB q] (X+S) (fun v h'=>kP w0 X b tb (runW c .prep) h'):=by
 refine zN Tryz.func153 M Tryz.ntmps153 Tryz.results153 M fun fr=>?_
 repeat (first|refine zB ?_|refine wA M (by assumption) M M M M ?_)
 refine zX M M (zQ M M M) (preparing_spec w0 X b tb c S n hS hZ hn hF (.inl ho)) ?_
 rintro _ _ hA
 repeat (refine zE ?_)
 exact ⟨[],_,_,trivial,hA,yJ.out⟩
theorem snapRun_spec (hS:kT w0 X b tb c S) (hZ:Sz n c) (hn:n+100≤100000000) (hF:xG c) (ho:c.own=true) (p q:Nat) (hp:At w0 X p 0 [pB b]) (hq:At w0 X q 0 [pB tb]) :
  yO Tryz.prog w0 155 [pB p,pB q] (X+S) (fun v h'=>kP w0 X b tb (runW c .snap) h'):=by
 refine zN Tryz.func155 M Tryz.ntmps155 Tryz.results155 M fun fr=>?_
 repeat (first|refine zB ?_|refine wA M (by assumption) M M M M ?_)
 refine zX M M (zQ M M M) (preparing_spec w0 X b tb c S n hS hZ hn hF (.inr ho)) ?_
 rintro _ _ hA
 repeat (refine zE ?_)
 exact ⟨[],_,_,trivial,hA,yJ.out⟩
theorem waitRun_spec (hS:kT w0 X b tb c S) (hZ:Sz n c) (hn:n+100≤100000000) (hF:xG c) (w:Wts) (v:Value) (hW:WaitAt w0 X b tb (some w) v) (hk:kindW c w) :
  ∃ k caps,Fun Tryz.prog k∧v=.func (.func k) #[] caps.toArray∧yO Tryz.prog w0 k caps (X+S) (fun r h'=>kP w0 X b tb (runW c w) h'):=by
 have hml:=hZ.m.len
 have hal:=hZ.cur.asked
 cases w with
 | read x=>obtain ⟨p,q,d,rfl,h1,h2⟩:=hW; exact ⟨_,[pB p,pB q],inferInstance,rfl,readRun_spec w0 X b tb c S n hS hZ.bd (by omega) hF (by omega) hk.2.1 (by omega) x d p q h1 h2⟩
 | prep=>obtain ⟨p,q,rfl,h1,h2⟩:=hW; exact ⟨_,[pB p,pB q],inferInstance,rfl,commitRun_spec w0 X b tb c S n hS hZ hn hF hk.2.1 p q h1 h2⟩
 | snap=>obtain ⟨p,q,rfl,h1,h2⟩:=hW; exact ⟨_,[pB p,pB q],inferInstance,rfl,snapRun_spec w0 X b tb c S n hS hZ hn hF hk.2.2 p q h1 h2⟩
 | kept x=>obtain ⟨p,q,d,rfl,h1,h2⟩:=hW; exact ⟨_,[pB p,pB q],inferInstance,rfl,keptRun_spec w0 X b tb c S n hS hZ.bd (by omega) hF (by omega) x d p q h1 h2⟩
 | again x=>obtain ⟨p,q,d,rfl,h1,h2⟩:=hW; exact ⟨_,[pB p,pB q],inferInstance,rfl,again_spec w0 X b tb c S n hS hZ.bd (by omega) hF (by omega) x d p q h1 h2⟩
variable (r:Res) (ad:Option Addr) (cp:Nat)
theorem heardPart_spec (hS:kT w0 X b tb c S) (hZ:Sz n c) (hn:n+300≤100000000) (hF:xG c) (hr:RdL w0 X (.slice ad r.data.length cp) r.data) (o:Opn) (g:Int) (hg:grp g) (hph:c.own=true)
  (p q s u:Nat) (t:Option Addr) (e:List Value) (h1:At w0 X p 0 [pB b]) (h2:At w0 X q 0 [.pointer t]) (h3:At w0 X s 0 e) (h4:Rep.rd w0 X o e) (h5:At w0 X u 0 [.int .i64 g]) :
  yO Tryz.prog w0 294 [.agg [.int .i64 r.code,.slice ad r.data.length cp].toArray,pB p,pB q,pB s,pB u] (X+S) (fun v h'=>kP w0 X b tb (xX c (.part o g) r) h'):=by
 have hpart:=parting_spec w0 X b tb c S n hS hZ.bd (by omega) (.pointer t) ⟨_,rfl⟩ o e h4 g hg 1 (by omega)
 have hturn:=turn_spec w0 X b tb c S n hS hZ.bd (by omega)
 obtain ⟨a1,c1,a2,c2,a3,c3,a4,c4,rfl,-⟩:=id h4
 refine zN Tryz.func294 M Tryz.ntmps294 Tryz.results294 M fun fr=>?_
 repeat (first|refine zF ?_|refine zR ?_|refine zB ?_|refine zE ?_|refine zY M M M M M ?_|refine yM M M M M M ?_|refine xN M (c:=[_,_]) M M M (fun _=>?_))
 refine yF M M (yK M M) (fun h=>?_) (fun h=>?_)
 ·simp only [xX,if_pos h]
  repeat (first|refine zE ?_|refine zK M M M ?_|refine zP ?_|refine zJ M ?_)
  exact ⟨[],_,_,trivial,kP.now hS,yJ.out⟩
 simp only [xX,if_neg h]
 refine zaA ?_
 refine yF M M (yK M M) (fun h6=>?_) (fun h6=>?_)
 ·simp only [if_pos h6]
  refine zdO ?_
  refine zX M M (zQ M M M) hpart ?_
  rintro _ _ hA
  repeat (refine zE ?_)
  exact ⟨[],_,_,trivial,hA,yJ.out⟩
 simp only [if_neg h6]
 have had:gU c (if r.code=26 then wF c else c):=by split<;>first|exact qM c|exact gU.refl c
 have hkp:=vB had
 have hF1:=hF.adds had
 have hZ1:=hZ.turns (by omega) (r.code=26)
 refine zbH ?_
 refine yF M M (yK M M) (fun h7=>?_) (fun h7=>?_)
 ·rw [if_pos h7] at *
  repeat (first|refine zB ?_|refine zE ?_|refine zJ M ?_|refine wA M (by assumption) M M M M ?_)
  refine zX M M (zQ M M M) hturn ?_
  rintro _ _ ⟨E,S1,hS1,rfl⟩
  repeat (first|refine zB ?_|refine zE ?_|refine wA M (by assumption) M M M M ?_)
  refine zX M M (zQ M M M) (coming_spec w0 (X+E) b tb _ S1 (n+1) hS1 hZ1 (by omega) hF1 2 i64_2 (.inl (by rw [hkp.2.2.2.1]; exact hph))) ?_
  rintro _ _ hA
  repeat (refine zE ?_)
  exact ⟨[],_,_,trivial,hA.trans,yJ.out⟩
 ·rw [if_neg h7] at *
  repeat (first|refine zB ?_|refine zE ?_|refine zP ?_|refine zI M ?_|refine wA M (by assumption) M M M M ?_)
  refine zX M M (zQ M M M) (coming_spec w0 X b tb _ S (n+1) hS hZ1 (by omega) hF1 2 i64_2 (.inl hph)) ?_
  rintro _ _ hA
  repeat (refine zE ?_)
  exact ⟨[],_,_,trivial,hA,yJ.out⟩
theorem heardLook_spec (hS:kT w0 X b tb c S) (hZ:Sz n c) (hn:n+300≤100000000) (hF:xG c) (hr:RdL w0 X (.slice ad r.data.length cp) r.data) (hlen:r.data.length≤1000000) (hk:∀ w,c.waits=some w→kindW c w)
  (p:Nat) (h1:At w0 X p 0 [pB b]) :
  yO Tryz.prog w0 353 [.agg [.int .i64 r.code,.slice ad r.data.length cp].toArray,pB p] (X+S) (fun v h'=>kP w0 X b tb (xX c .look r) h'):=by
 have hlook:=looking_spec w0 X b tb c S n hS hZ.bd (by omega) 1 (by omega)
 have hlearn:=learning_spec w0 X b tb c S hS r.data ad cp hr (by omega)
 have hZ1:=hZ.learn r.data
 have hl:=learnF_learns c r.data
 have hF1:=hl.choose_spec.2 hF
 have hk1:∀ w,(jS c r.data).waits=some w→kindW (jS c r.data) w:=by
  obtain ⟨m,e,-⟩:=hl
  rw [e]
  intro w hw
  have:=hk w hw
  cases w<;>exact this
 refine zN Tryz.func353 M Tryz.ntmps353 Tryz.results353 M fun fr=>?_
 repeat (first|refine zF ?_|refine zB ?_|refine zE ?_|refine zY M M M M M ?_|refine yM M M M M M ?_|refine xN M (c:=[_,_]) M M M (fun _=>?_))
 refine yF M M (xZ M M) (fun h=>?_) (fun h=>?_)
 ·simp only [xX,if_pos h]
  repeat (first|refine zF ?_|refine zB ?_|refine zE ?_|refine zK M M M ?_|refine xE M M ?_|refine zJ M ?_|refine wA M (by assumption) M M M M ?_)
  refine zX M M (zQ M M M) hlook ?_
  rintro _ _ hA
  refine zbI ?_
  exact ⟨[],_,_,trivial,hA,yJ.out⟩
 simp only [xX,if_neg h]
 repeat (first|refine zK M M M ?_|refine zY M M M M M ?_|refine yM M M M M M ?_|refine wA M (by assumption) M M M M ?_)
 refine zX M M (zQ M M M) hlearn ?_
 rintro _ _ ⟨rfl,E,S1,hS1,rfl⟩
 generalize jS c r.data=c1 at *
 by_cases hm:(jN r.data).2=0
 rotate_left
 ·rw [decide_eq_false hm,if_pos hm]
  refine zeR ?_
  refine zX M M (zQ M M M) (looking_spec w0 (X+E) b tb c1 S1 n hS1 hZ1.bd (by omega) 1 (by omega)) ?_
  rintro _ _ hA
  refine zbI ?_
  exact ⟨[],_,_,trivial,hA.trans,yJ.out⟩
 rw [decide_eq_true hm,if_neg (by simpa using hm)]
 obtain ⟨⟨vmem,vr0,vsets,vmr,vg,ve,vd,vrq,vop,vow,vw,vco,vou,van⟩,ps,hG,hE,hD,hR,hT,hK,hO,P,rfl⟩:=hS1
 have hZ2:Sz n { c1 with stale:=false }:=hZ1.free
 have hF2:=hF1.stale false
 have hk2:∀ w,c1.waits=some w→kindW { c1 with stale:=false,waits:=none } w:=by
  intro w hw
  have:=hk1 w hw
  cases w<;>exact this
 unfold goF
 cases hw:c1.waits with
 | none =>
  have hvw:vw=.nilFunc:=by have:=P.waits; rw [hw] at this; exact this
  subst hvw
  refine zeZ ?_
  refine yG M M (pv_neq_nilfunc (r:=true) M M (.inl ⟨rfl,rfl⟩)) ?_
  refine zaX ?_
  have hP:xT w0 (X+E) b { c1 with stale:=false,waits:=none } ⟨vmem,vr0,vsets,vmr,vg,ve,vd,vrq,vop,vow,.nilFunc,vco,vou,van⟩ tb ps hG hE hD hR hT hK hO :=
   xT.mk P.mem P.rngs0 P.sets P.mr P.guess P.ended P.dbts P.reqs P.opn P.own P.txn M P.coord P.out P.ansd
  exact end_cli (X:=X+E) [] trivial hP (by exact rfl) hP.now.after.trans
 | some w =>
  have hvw:WaitAt w0 (X+E) b tb (some w) vw:=by have:=P.waits; rw [hw] at this; exact this
  have hP:xT w0 (X+E) b { c1 with stale:=false,waits:=none } ⟨vmem,vr0,vsets,vmr,vg,ve,vd,vrq,vop,vow,.nilFunc,vco,vou,van⟩ tb ps hG hE hD hR hT hK hO :=
   xT.mk P.mem P.rngs0 P.sets P.mr P.guess P.ended P.dbts P.reqs P.opn P.own P.txn M P.coord P.out P.ansd
  have hF3:xG { c1 with stale:=false,waits:=none }:=⟨hF2.guess,hF2.reqs,hF2.rngs,hF2.parts,hF2.asked,hF2.doubts,hF2.coord,hF2.nmem⟩
  obtain ⟨k,caps,hfk,rfl,hrun⟩:=waitRun_spec w0 (X+E) b tb { c1 with stale:=false,waits:=none } _ n ⟨_,ps,hG,hE,hD,hR,hT,hK,hO,hP,rfl⟩ (hZ2.wait (w:=none) trivial) (by omega) hF3 w vw hvw (hk2 w hw)
  refine zeZ ?_
  refine yG M M (pv_neq_nilfunc (r:=false) M M (.inr ⟨⟨_,_,_,rfl⟩,rfl⟩)) ?_
  repeat (first|refine zF ?_|refine zB ?_|refine zE ?_|refine zK M M M ?_|refine zY M M M M M ?_|refine zJ M ?_|refine xD M M M (c':=(_::_::_::_::_::_::_::_::_::_::_::_::_::_::_::_::_::_::_::_::_::_::_::_::_::_::_::_::_::_::_::_::_::_::_::_::_::_::[])) M M M M ?_|refine wA M (by assumption) M M M M ?_)
  refine zX M M (zQ M M (by simp<;>rfl)) hrun ?_
  rintro _ _ hA
  repeat (refine zE ?_)
  exact ⟨[],_,_,trivial,hA.trans,yJ.out⟩
end
section
variable {P:Program} {g:Env}
theorem ev_eql_ptr {w0:World} {L:Hp} {t te ty:TypeId} [hu:Und P t (.pointer te)] {sz by':Nat} {z:Value} [hi:Inf P te sz by' z] (hsz:(sz==0)=false) {x y:Operand} {p q:Nat} (hx:ev g x=some (pB p)) (hy:ev g y=some (pB q))
  {cp cq:Array Value} {tp tq:TypeId} (hp:∃ R,L=pt p (.cells cp tp (0,0))+R) (hq:∃ R,L=pt q (.cells cq tq (0,0))+R) :
  EV P w0 L g (.binOp .eql t x y ty) fun u L'=>u=.bool (decide (p=q))∧L'=L:=by
 intro o a w n ho ha hst
 obtain ⟨R1,e1⟩:=hp
 obtain ⟨R2,e2⟩:=hq
 have h1:w.heap[p]?=some (.cells cp tp (0,0)):=by rw [e1] at hst; exact hst.left.sat.pt.2
 have h2:w.heap[q]?=some (.cells cq tq (0,0)):=by rw [e2] at hst; exact hst.left.sat.pt.2
 obtain ⟨j,j1,j2,j3,j4⟩:=hi.out
 have hz:j.size≠0:=by rw [j2]; intro e; rw [e] at hsz; cases hsz
 have hr:(binOp .eql t (pB p) (pB q)).run P w=.ok (.bool (decide (p=q))) w:=by
  by_cases h:p=q
  ·subst h
   rw [decide_eq_true M]
   exact run_eql_ptr_same w _ hu.out j1
  ·rw [decide_eq_false h]
   exact run_eql_ptr_other w hu.out j1 hz (fun e=>h (by simpa using congrArg Addr.block e)) h1 h2
 refine ⟨_,w,L,.inl ?_,⟨rfl,rfl⟩,hst⟩
 unfold execOp
 have hg:(eqGuard .eql t x y (pB p) (pB q)).run P w=.ok () w:=by unfold eqGuard; simp
 simp only [ho,ha.ev hx,ha.ev hy,Sem.run_bind,hg,Result.andThen_ok,hr,Sem.run_pure]
end
theorem yO.given {P:Program} {w0:World} {f:FuncId} {args:List Value} {X:Hp} {Q:Value→Hp→Prop} (h:(∃ w fr,St w0 w (X+fr))→yO P w0 f args X Q):yO P w0 f args X Q:=fun w fr hw=>h ⟨w,fr,hw⟩ w fr hw
theorem gZ.nodup {w0:World} {X:Hp} {b tb:Nat}:∀ {xs:List GRq} {h R:Hp} {w:World},gZ w0 X b tb xs h→St w0 w (h+R)→(xs.map (·.blk)).Nodup
 | [],_,_,_,_,_=>List.nodup_nil
 | x::xs,_,R,w,⟨h1,h2,a,c,d⟩,hst=>by
  subst d
  rw [List.map_cons,List.nodup_cons]
  refine ⟨fun hm=>?_,gZ.nodup c (R:=h1+R) (w:=w) (by rw [show h2+(h1+R)=h1+h2+R by ac_rfl]; exact hst)⟩
  obtain ⟨y,hy,e⟩:=List.mem_map.1 hm
  obtain ⟨g1,g2,k1,k2⟩:=gZ.mem c hy
  obtain ⟨a1,c1,a2,c2,a3,c3,a4,c4,hv,rfl,-⟩:=a
  obtain ⟨a1',c1',a2',c2',a3',c3',a4',c4',hv',rfl,-⟩:=k1
  rw [k2,e] at hst
  have h3:St w0 w (reqC x.blk (reqL x.rq (.slice a1 x.rq.o.parts.length c1) (.slice a2 x.rq.o.reads.length c2) (.slice a3 x.rq.o.writes.length c3) (.slice a4 x.rq.o.data.length c4) hv)+reqC x.blk (reqL y.rq (.slice a1' y.rq.o.parts.length c1') (.slice a2' y.rq.o.reads.length c2') (.slice a3' y.rq.o.writes.length c3') (.slice a4' y.rq.o.data.length c4') hv')+(g2+R)):=by
   refine cast (congrArg (St w0 w) ?_) hst
   ac_rfl
  exact absurd M (h3.left.sat.ne)
def HearOk (c:Cl):Hrd→Prop
 | .read _=>c.opn=true
 | .part _ _=>c.own=true
 | .look=>∀ w,c.waits=some w→kindW c w
 | _=>True
theorem heard_fit {c:Cl} (ha:Any c) (hf:xG c) {r:Rq} (hr:r∈c.reqs):HearOk c r.heard:=by
 have hcore:=hf.reqs (vS r) (List.mem_map.2 ⟨r,hr,rfl⟩)
 by_cases ht:r.tidy=true
 ·have h1:tfree r.heard=true:=hcore.2.2 ht
  cases h:r.heard<;>rw [h] at h1<;>first|trivial|(cases h1; done)|skip
  intro w hw
  rcases ha with ⟨_,_,h3⟩|⟨_,_,h3⟩
  ·rcases h3 with ⟨a,b,w',e,k⟩|⟨_,e,_⟩|⟨_,_,e,_⟩|⟨_,e,_⟩
   ·rw [hw] at e; cases e; exact k
   ·rw [hw] at e; cases e
   ·rw [hw] at e; cases e
   ·rw [hw] at e; cases e
  ·rw [h3.2.1] at hw; cases hw
 ·have hm:r.heard∈wU c:=List.mem_map.2 ⟨r,List.mem_filter.2 ⟨hr,by simpa using ht⟩,rfl⟩
  rcases ha with ⟨_,_,h3⟩|⟨_,_,h3⟩
  ·rcases h3 with ⟨a,_⟩|⟨⟨h,e,k⟩,_⟩|⟨a,b,_⟩|⟨a,_⟩
   ·rw [a] at hm; cases hm
   ·rw [e,List.mem_singleton] at hm
    rw [← hm] at k
    cases hh:r.heard<;>rw [hh] at k<;>first|trivial|exact k.2|exact k.elim
   ·have:=a _ hm
    cases hh:r.heard<;>rw [hh] at this<;>first|exact b|(cases this; done)
   ·rw [a] at hm; cases hm
  ·rw [h3.1] at hm; cases hm
section
variable (w0:World) (X:Hp) (b tb:Nat) (c:Cl) (S:Hp) (n:Nat)
theorem quiet1_spec (hS:kT w0 X b tb c S) (cd:Int) (a1:Option Addr) (n1 c1:Nat):yO Tryz.prog w0 280 [.agg [.int .i64 cd,.slice a1 n1 c1].toArray] (X+S) (fun r h'=>kP w0 X b tb c h'):=by
 refine zN Tryz.func280 M Tryz.ntmps280 Tryz.results280 M fun fr=>?_
 repeat (first|refine zB ?_|refine zE ?_|refine xN M (c:=[_,_]) M M M (fun _=>?_))
 exact ⟨[],_,_,trivial,kP.now hS,yJ.out⟩
variable (r:Res) (ad:Option Addr) (cp:Nat)
theorem heardRun_spec (hS:kT w0 X b tb c S) (hZ:Sz n c) (hn:n+300≤100000000) (hF:xG c) (hr:RdL w0 X (.slice ad r.data.length cp) r.data) (hlen:r.data.length≤1000000) (h:Hrd) (v:Value) (hH:gT w0 X b tb h v) (hk:HearOk c h) (hh:hrdOk h) :
  ∃ k caps,Fun Tryz.prog k∧v=.func (.func k) #[] caps.toArray∧yO Tryz.prog w0 k (.agg [.int .i64 r.code,.slice ad r.data.length cp].toArray::caps) (X+S) (fun _ h'=>kP w0 X b tb (xX c h r) h'):=by
 have hml:=hZ.m.len
 have hca:=hZ.cur.asked
 have hcp:=hZ.cur.parts
 have hcr:=hZ.cur.reads.1
 cases h with
 | quiet=>obtain rfl:=hH; exact ⟨_,[],inferInstance,rfl,quiet1_spec w0 X b tb c S hS _ _ _ _⟩
 | look=>obtain ⟨p,rfl,h1⟩:=hH; exact ⟨_,[pB p],inferInstance,rfl,heardLook_spec w0 X b tb c S n r ad cp hS hZ hn hF hr hlen hk p h1⟩
 | read m=>obtain ⟨p,q,s,rfl,h1,h2,h3⟩:=hH; exact ⟨_,[pB p,pB q,pB s],inferInstance,rfl,heardRead_spec w0 X b tb c S n r ad cp hS hZ.bd hF (by omega) (by omega) hk hZ.cur.nums.1 (by omega) hr (by omega) m p q s h1 h2 h3⟩
 | part o g=>obtain ⟨p,q,s,u,t,e,rfl,h1,h2,h3,h4,h5⟩:=hH; exact ⟨_,[pB p,pB q,pB s,pB u],inferInstance,rfl,heardPart_spec w0 X b tb c S n r ad cp hS hZ hn hF hr o g hh hk p q s u t e h1 h2 h3 h4 h5⟩
 | kept x=>obtain ⟨p,q,d,rfl,h1,h2⟩:=hH; exact ⟨_,[pB p,pB q],inferInstance,rfl,heardKept_spec w0 X b tb c S n r ad cp hS hZ.bd hF (by omega) (by omega) hr x d p q h1 h2⟩
 | plan x=>obtain ⟨p,q,s,u,d,rfl,h1,h2,h3,h4⟩:=hH; exact ⟨_,[pB p,pB q],inferInstance,rfl,ok1_spec w0 X b tb c S r ad cp hS hr p q _ [pB s,pB u] (frzF c x (jN r.data).1.m1 0) h1 h2 (move1_spec w0 X b tb c S n r ad cp hS hZ.bd (by omega) hr (by omega) x d hh.1 s u h3 h4)⟩
 | frz x m=>obtain ⟨p,q,s,d,rfl,h1,h2,h3⟩:=hH; exact ⟨_,[pB p,pB q,pB s],inferInstance,rfl,freeze1_spec w0 X b tb c S n r ad cp hS hZ.bd (by omega) hr x d m hh.1 hh.2 p q s h1 h2 h3⟩
 | inst x m=>obtain ⟨p,q,s,u,t,d,rfl,h1,h2,h3,h4,h5⟩:=hH; exact ⟨_,[pB p,pB q],inferInstance,rfl,ok1_spec w0 X b tb c S r ad cp hS hr p q _ [pB s,pB u,pB t] (finF c x m) h1 h2 (install1_spec w0 X b tb c S n r ad cp hS hZ.bd (by omega) x d m s u t h3 h4 h5)⟩
 | fin x m=>obtain ⟨p,q,s,u,t,d,rfl,h1,h2,h3,h4,h5⟩:=hH; exact ⟨_,[pB p,pB q],inferInstance,rfl,ok1_spec w0 X b tb c S r ad cp hS hr p q _ [pB s,pB u,pB t] (jC (quietF (jS c r.data) x.src.toNat ⟨7,0,0,0,0,m,0,0,0,0,0,0,0,[],[],[],[]⟩) 0) h1 h2 (heardFin_spec w0 X b tb c S n r ad cp hS hZ.bd (by omega) hr (by omega) x d m hh s u t h3 h4 h5)⟩
 | change x=>obtain ⟨p,q,d,rfl,h1,h2⟩:=hH; exact ⟨_,[pB p,pB q],inferInstance,rfl,change1_spec w0 X b tb c S n r ad cp hS hZ.bd (by omega) hr x d hh p q h1 h2⟩
end
instance :Inhabited Rq:=⟨⟨0,op0 0,0,0,false,.quiet⟩⟩
theorem OwL.openI {w0:World} {X h:Hp} {xs:List Int} {v:Value} (H:OwL w0 X xs v h) (hne:xs≠[]) :
  ∃ bk cap spare,v=.slice (some ⟨bk,0,none⟩) xs.length cap∧h=pt bk (.cells (xs.map (Value.int .i64)++spare).toArray 3 (0,0)) ∧
   ∀ ys:List Int,ys.length=xs.length→OwL w0 X ys v (pt bk (.cells (ys.map (Value.int .i64)++spare).toArray 3 (0,0))):=by
 have H1:gH 3 1 (bN xs) v h:=gF.1 H
 obtain ⟨hr1,⟨ad,_,hnil,_⟩|⟨bk,cap,spare,hv,rfl,hr2,hr3,hr4⟩⟩:=H1
 ·exact absurd (List.map_eq_nil_iff.1 hnil) hne
 ·rw [kM] at hv hr2 hr4
  refine ⟨bk,cap,spare,hv,by rw [flat1],fun ys hy=>gF.2 ?_⟩
  have:=jH (E:=3) (b:=bk) (cap:=cap) (spare:=spare) (size:=1) (bL ys) (by rw [kM]; omega) hr3 (by rw [kM,hy]; exact hr4)
  rw [flat1,kM,hy] at this
  rw [hv]; exact this
theorem cells_getI (xs:List Int) (spare:List Value) {i:Nat} (hi:i<xs.length):(xs.map (Value.int .i64)++spare)[0+i*1]?=some (.int .i64 xs[i]):=by
 rw [Nat.zero_add,Nat.mul_one,List.getElem?_append_left (by simpa using hi),List.getElem?_map,List.getElem?_eq_getElem hi]; rfl
theorem cells_setI (xs:List Int) (spare:List Value) {i:Nat} (hi:i<xs.length) (m:Int):(xs.map (Value.int .i64)++spare).set (0+i*1) (.int .i64 m)=(xs.set i m).map (Value.int .i64)++spare:=by
 rw [Nat.zero_add,Nat.mul_one,List.set_append_left _ _ (by simpa using hi),List.map_set]
def firstG (ps:List PRq) (rs:List Rq):List GRq:=(xA rs).map fun i=>⟨(ps.getD i ⟨0⟩).blk,rs.getD i default⟩
theorem ptr_firstG (ps:List PRq) (rs:List Rq):ptrG (firstG ps rs)=wE ps rs:=by unfold ptrG firstG wE; rw [List.map_map]; rfl
def toldQ (c:Cl) (m:Msg) (i:Nat):Bool:=match c.reqs[i]? with
 | none=>false
 | some r=>isTold m r
theorem toldAt_eq (c:Cl) (m:Msg):toldAt c m=(xA c.reqs).find? (toldQ c m):=rfl
theorem told_find (c:Cl) (m:Msg):∀ {i:Nat},i<c.reqs.length→toldQ c m i=isTold m (c.reqs.getD i default):=by
 intro i hi
 unfold toldQ
 rw [List.getD_eq_getElem?_getD,List.getElem?_eq_getElem hi]; rfl
theorem told_idx (ps:List PRq) (c:Cl) (m:Msg):(qG (fun x:GRq=>isTold m x.rq) (firstG ps c.reqs)=-1∧toldAt c m=none) ∨
  ∃ (j:Nat) (hj:j<(xA c.reqs).length),qG (fun x:GRq=>isTold m x.rq) (firstG ps c.reqs)=j∧toldAt c m=some (xA c.reqs)[j]:=by
 have hlt:∀ i∈xA c.reqs,i<c.reqs.length:=fun i hi=>qX hi
 rcases uF (fun x:GRq=>isTold m x.rq) (firstG ps c.reqs) with ⟨h1,h2⟩|⟨j,hj,h1,h2,h3⟩
 ·refine .inl ⟨h1,?_⟩
  rw [toldAt_eq,List.find?_eq_none]
  intro i hi
  rw [told_find c m (hlt i hi)]
  have:=h2 ⟨(ps.getD i ⟨0⟩).blk,c.reqs.getD i default⟩ (List.mem_map.2 ⟨i,hi,rfl⟩)
  simp only at this
  rw [this]; simp
 ·have hj':j<(xA c.reqs).length:=by simpa [firstG] using hj
  refine .inr ⟨j,hj',h1,?_⟩
  rw [toldAt_eq]
  refine find_hit hj' ?_ ?_
  ·rw [told_find c m (hlt _ (List.getElem_mem hj'))]
   simpa [firstG] using h2
  ·intro i hi
   rw [told_find c m (hlt i (List.mem_of_mem_take hi))]
   have:=h3 ⟨(ps.getD i ⟨0⟩).blk,c.reqs.getD i default⟩ (by unfold firstG; rw [← List.map_take]; exact List.mem_map.2 ⟨i,hi,rfl⟩)
   simpa using this
theorem map_erase {α β:Type} (f:α→β):∀ (l:List α) (i:Nat),(l.eraseIdx i).map f=(l.map f).eraseIdx i
 | [],_=>rfl
 | _::_,0=>rfl
 | x::l,i+1=>by rw [List.eraseIdx_cons_succ,List.map_cons,List.map_cons,List.eraseIdx_cons_succ,map_erase f l i]
theorem filter_erase :∀ {xs:List GRq} {i:Nat} {x:GRq},(xs.map (·.blk)).Nodup→xs[i]?=some x→xs.filter (fun y=>!decide (y.blk=x.blk))=xs.eraseIdx i
 | [],_,_,_,hx=>by simp at hx
 | y::xs,0,x,hn,hx=>by
  obtain rfl:y=x:=by simpa using hx
  rw [List.map_cons,List.nodup_cons] at hn
  rw [List.filter_cons_of_neg (by simp),List.eraseIdx_cons_zero]
  refine List.filter_eq_self.2 fun z hz=>?_
  have:z.blk≠y.blk:=fun e=>hn.1 (by rw [← e]; exact List.mem_map.2 ⟨z,hz,rfl⟩)
  simp [this]
 | y::xs,i+1,x,hn,hx=>by
  rw [List.map_cons,List.nodup_cons] at hn
  have hx':xs[i]?=some x:=by simpa using hx
  have hne:y.blk≠x.blk:=fun e=>hn.1 (by rw [e]; exact List.mem_map.2 ⟨x,List.mem_iff_getElem?.2 ⟨i,hx'⟩,rfl⟩)
  rw [List.filter_cons_of_pos (by simp [hne]),List.eraseIdx_cons_succ,filter_erase hn.2 hx']
theorem zfB {G G' : Prop} (h : G') (f : Zh G'→G:=by intro h; (repeat (first|refine yH M M M M M ?_|refine yD M M M M (zZ M M M) ?_|refine yQ M M M M (yE M) (zG M (zS M)) ?_|refine yQ M M M M (yE M) (zL (vs:=[_,_]) M M M) ?_)); exact h.o) : G:=f ⟨h⟩
theorem zfA {G G' : Prop} (h : G') (f : Zh G'→G:=by intro h; (repeat (first|refine yH M M M M M ?_|refine yD M M M M (zZ M M M) ?_|refine yQ M M M M (yE M) (zG M (zS M)) ?_|refine gY M M M (by omega) M M M ?_)); exact h.o) : G:=f ⟨h⟩
section
variable (w0:World) (X:Hp) (b tb:Nat) (c:Cl) (S:Hp) (n:Nat)
theorem told1_spec (r:Rq) (p b1:Nat) (h:Hp) (m:Msg) (ve vd:Value) (hr:RqAt w0 X b tb p r h) :
  yO Tryz.prog w0 110 [pB p,pB b1] (h+pt b1 (.cells (xI m ve vd).toArray 55 (0,0))) (fun v h'=>v=.bool (isTold m r)∧h+pt b1 (.cells (xI m ve vd).toArray 55 (0,0))=h'):=by
 obtain ⟨a1,c1,a2,c2,a3,c3,a4,c4,hv,rfl,q1,q2,q3,q4,hh⟩:=hr
 unfold isTold
 refine zN Tryz.func110 M Tryz.ntmps110 Tryz.results110 M fun fr=>?_
 refine zaC ?_
 refine yB [] [0,1,2,3,4,5,6,7,8,9,10,11,12,13,14,15,16,17,18,19,20,21,22,23,24] (by kernel_rfl) M (by kernel_rfl) (by kernel_rfl) ?_
 refine zaF ?_
 refine jY M M M M (yK M M) (fun n1=>?_) (fun n1=>?_)
 ·refine zaF ?_
  refine jY M M M M (yK M M) (fun n2=>?_) (fun n2=>?_)
  ·refine zaF ?_
   refine yD M M M M (kQ M M) ?_
   refine zaD ?_
   repeat (refine zM ?_)
   exact ⟨[_],_,_,⟨rfl,trivial⟩,⟨congrArg Value.bool (decide_eq_decide.2 ⟨fun h=>⟨n1,n2,h⟩,fun h=>h.2.2⟩),rfl⟩,yJ.out⟩
  ·refine zaR ?_
   repeat (refine zM ?_)
   exact ⟨[_],_,_,⟨rfl,trivial⟩,⟨congrArg Value.bool (decide_eq_false (fun h=>n2 h.2.1)).symm,rfl⟩,yJ.out⟩
 ·refine zaR ?_
  repeat (refine zM ?_)
  exact ⟨[_],_,_,⟨rfl,trivial⟩,⟨congrArg Value.bool (decide_eq_false (fun h=>n1 h.1)).symm,rfl⟩,yJ.out⟩
theorem told2_spec (Y:Hp) (p q b5:Nat) {cp cq:Array Value} {tp tq:TypeId} (hp:∃ R,Y=pt p (.cells cp tp (0,0))+R) (hq:∃ R,Y=pt q (.cells cq tq (0,0))+R) (hb:At w0 Y b5 0 [pB q]) :
  yO Tryz.prog w0 113 [pB p,pB b5] Y (fun v h'=>v=.bool (decide (p=q))∧Y=h'):=by
 refine zN Tryz.func113 M Tryz.ntmps113 Tryz.results113 M fun fr=>?_
 repeat (first|refine zF ?_|refine zB ?_|refine zE ?_|refine zK M M M ?_|refine wA M (by assumption) M M M M ?_)
 have hp':∃ R,Y+fr=pt p (.cells cp tp (0,0))+R:=by obtain ⟨R,e⟩:=hp; exact ⟨R+fr,by rw [e]; ac_rfl⟩
 have hq':∃ R,Y+fr=pt q (.cells cq tq (0,0))+R:=by obtain ⟨R,e⟩:=hq; exact ⟨R+fr,by rw [e]; ac_rfl⟩
 refine kF M M (ev_eql_ptr M M M hp' hq') ?_
 rintro _ _ ⟨rfl,rfl⟩
 refine zaE ?_
 exact ⟨[_],Y,_,⟨rfl,trivial⟩,⟨rfl,rfl⟩,yJ.out⟩
theorem telling_spec (hS:kT w0 X b tb c S) (hZ:Sz n c) (hn:n+400≤100000000) (hF:xG c) (hA:Any c) (m:Msg) (ve:Value) (ad:Option Addr) (cd:Nat) (hd:RdL w0 X (.slice ad m.data.length cd) m.data) (hdl:m.data.length≤1000000) (hsrc:0≤m.src) :
  yO Tryz.prog w0 54 [pB b,.agg (xI m ve (.slice ad m.data.length cd)).toArray] (X+S) (fun r h'=>kP w0 X b tb (toldF c m) h'):=by
 refine yO.given fun hst=>?_
 obtain ⟨⟨vmem,vr0,vsets,vmr,vg,ve2,vd,vrq,vop,vow,vw,vco,vou,van⟩,ps,hG,hE,hD,hR,hT,hK,hO,P,rfl⟩:=id hS
 obtain ⟨r1,r2,r3,r4,rfl⟩:=P.reqs
 obtain ⟨bk,capg,spg,hvg,hGe,hgset⟩:=P.guess.openI (by intro e; have:=hF.guess; rw [e] at this; cases this)
 simp only at hvg
 subst hvg
 subst hGe
 have hlp:=r4.length
 have hnd:((zipG ps c.reqs).map (·.blk)).Nodup:=by
  obtain ⟨w,fr,hst⟩:=hst
  refine (gZ.of r4).nodup (R:=X+(cliC b (clL c ⟨vmem,vr0,vsets,vmr,.slice (some ⟨bk,0,none⟩) c.guess.length capg,ve2,vd,vrq,vop,vow,vw,vco,vou,van⟩)+(pt bk (.cells (c.guess.map (Value.int .i64)++spg).toArray 3 (0,0))+(hE+(hD+(r1+(hT+(hK+hO)))))))+fr) (w:=w) (cast (congrArg (St w0 w) ?_) hst)
  generalize cliC b (clL c ⟨vmem,vr0,vsets,vmr,.slice (some ⟨bk,0,none⟩) c.guess.length capg,ve2,vd,vrq,vop,vow,vw,vco,vou,van⟩)=Z
  ac_rfl
 clear hst
 have hgr:∀ r∈c.reqs,r.group<5:=fun r hr=>(hF.reqs (vS r) (List.mem_map.2 ⟨r,hr,rfl⟩)).1
 have hrl:=hZ.bd.reqs
 have hfirst:=firsts_spec w0 X b tb c _ ps r1 r2 _ hE hD hT hK hO P r3 r4 (by omega) hgr
 have hfl:=firstF_len c.reqs
 have hll:(wE ps c.reqs).length=(xA c.reqs).length:=by simp [wE]
 refine zN Tryz.func54 M Tryz.ntmps54 Tryz.results54 M fun fr=>?_
 repeat (first|refine zF ?_|refine zB ?_|refine zE ?_|refine zK M M M ?_|refine xN M (c:=[_,_,_,_,_,_,_,_,_,_,_,_,_,_,_,_,_]) M M M (fun _=>?_))
 rename_i b3
 refine zX M M (zQ M M M) hfirst ?_
 rintro vf _ ⟨hf,hof,rfl⟩
 repeat (refine uI M M M ?_)
 have hidx:=indexFuncG_spec w0 (r2+hf+pt b3 (.cells (xI m ve (.slice ad m.data.length cd)).toArray 55 (0,0))) vf (firstG ps c.reqs) 110 [pB b3] (fun x=>isTold m x.rq) ((hof.toG (Y:=0) (firstG ps c.reqs) (ptr_firstG ps c.reqs)).rd) (by simp only [firstG,List.length_map]; omega) (fun Y x e hx he=>by
  obtain ⟨i,hi,rfl⟩:=List.mem_map.1 hx
  have hil:=qX hi
  obtain ⟨p',g1,g2,e1,e2,e3,-,-⟩:=r4.get (List.getElem?_eq_getElem hil)
  have hbk:(ps.getD i ⟨0⟩).blk=p'.blk:=by rw [List.getD_eq_getElem?_getD,e1]; rfl
  have hrq:c.reqs.getD i default=c.reqs[i]:=by rw [List.getD_eq_getElem?_getD,List.getElem?_eq_getElem hil]; rfl
  simp only [hbk,hrq]
  exact yO.frameL (R:=g2+hf) (by rw [e3]; ac_rfl) (told1_spec w0 X b tb c.reqs[i] p'.blk b3 g1 m ve _ e2))
 refine zX M M (zQ M M M) hidx ?_
 rintro _ _ ⟨rfl,rfl⟩
 clear hidx
 rcases told_idx ps c m with ⟨hi1,hi2⟩|⟨j,hj,hi1,hi2⟩
 ·rw [hi1]
  refine zaC ?_
  refine kD M M (yS M M) (by decide) ?_
  repeat (first|refine zE ?_|refine zM ?_|refine zJ M ?_)
  have:toldF c m=c:=by unfold toldF; rw [hi2]
  rw [this]
  exact ⟨[],_,_,trivial,kP.now hS,yJ.out⟩
 rw [hi1]
 refine zaC ?_
 refine yP M M (yS M M) (by omega) ?_
 refine zaW ?_
 refine zX M M (zQ M M M) hfirst ?_
 clear hfirst
 rintro vf2 _ ⟨hf2,hof2,rfl⟩
 obtain ⟨af,cf,rfl⟩:=hof2.shape
 have hrd2:RdL w0 hf2 (.slice af (wE ps c.reqs).length cf) (wE ps c.reqs):=hof2.rdh
 have hjp:j<(wE ps c.reqs).length:=by omega
 obtain ⟨bq,oq,rfl,e,rfl,hat⟩:=hrd2.at hjp
 have hil:=qX (List.getElem_mem hj)
 obtain ⟨p',g1,g2,e1,e2,rfl,-,e5⟩:=r4.get (List.getElem?_eq_getElem hil)
 have hpj:(wE ps c.reqs)[j]=p':=by
  simp only [wE,List.getElem_map,List.getD_eq_getElem?_getD]
  rw [e1]; rfl
 rw [hpj] at hat
 have hfit:=heard_fit hA hF (List.getElem_mem hil)
 have hcore:=hF.reqs (vS c.reqs[(xA c.reqs)[j]]) (List.mem_map.2 ⟨_,List.getElem_mem hil,rfl⟩)
 have hosz:=hZ.bd.ops (vS c.reqs[(xA c.reqs)[j]]) (List.mem_map.2 ⟨_,List.getElem_mem hil,rfl⟩)
 have hri:c.reqs[(xA c.reqs)[j]]?=some c.reqs[(xA c.reqs)[j]]:=List.getElem?_eq_getElem hil
 have hzi:(zipG ps c.reqs)[(xA c.reqs)[j]]?=some ⟨p'.blk,c.reqs[(xA c.reqs)[j]]⟩:=by
  unfold zipG
  rw [List.getElem?_map,(List.getElem?_zip_eq_some (z:=(p',c.reqs[(xA c.reqs)[j]]))).2 ⟨e1,hri⟩]; rfl
 generalize (xA c.reqs)[j]=i at *
 generalize c.reqs[i]=r at *
 have hT0:toldF c m=if m.ok=false then (if 1≤m.index∧m.index≤c.nodes∧m.index≠m.src then wZ (vQ c r.group m.index) i else c)
   else if (vR m.data).2≠0 then c else xX { (if m.src≤c.nodes then vQ c r.group m.src else c) with reqs:=(if m.src≤c.nodes then vQ c r.group m.src else c).reqs.eraseIdx i } r.heard (vR m.data).1:=by
  unfold toldF; rw [hi2]; simp only; rw [hri]
 rw [hT0]
 clear hT0 hi1 hi2
 have hg5:r.group<c.guess.length:=by rw [hF.guess]; exact hcore.1
 have e2':=e2
 obtain ⟨b1,d1,b2,d2,b4,d4,b6,d6,hv,rfl,q1,q2,q3,q4,hh⟩:=e2
 repeat (first|refine zF ?_|refine zB ?_|refine zE ?_|refine zK M M M ?_|refine zY M M M M M ?_|refine yM M M M M M ?_|refine xD M M M (c':=[_]) M M M M ?_|refine kC M M (by omega) M M ?_|refine wA M (by assumption) M M M M ?_|refine xK (c:=[_]) M M M (fun _=>?_))
 rename_i b5
 refine gS (t:=!m.ok) M (fun hok=>?_) (fun hok=>?_)
 ·rw [if_pos (by simpa using hok)]
  repeat (refine zF ?_)
  refine yB [] [0,1,2,3,4,5,6,7,8,9,10,11,12,13,14,15,16,17,18,19] (by kernel_rfl) M (by kernel_rfl) (by kernel_rfl) ?_
  refine zbR ?_
  refine jY M M M M (kQ M M) (fun n1=>?_) (fun n1=>?_)
  ·refine zaF ?_
   refine jY M M M M (dD M M) (fun n2=>?_) (fun n2=>?_)
   ·refine zaF ?_
    refine jY M M M M (xZ M M) (fun n3=>?_) (fun n3=>?_)
    ·rw [if_pos ⟨by omega,by omega,n3⟩]
     refine zaD ?_
     repeat (first|refine zF ?_|refine zJ M ?_)
     refine yB [11] [0,1,2,3,4,5,6,7,8,9,10,11] (by kernel_rfl) M (by kernel_rfl) (by kernel_rfl) ?_
     refine zfA ?_
     refine xS M M M M (kA (c:=c.guess.map (Value.int .i64)++spg) M M M M (cells_getI c.guess spg hg5) (cells_setI c.guess spg hg5 m.index)) (xF.all _) ?_
     rintro _ _ rfl
     refine ⟨zka,?_⟩
     repeat (refine yI ?_)
     repeat (first|refine zB ?_|refine zK M M M ?_|refine yM M M M M M ?_)
     have hPg:xT w0 X b { c with guess:=c.guess.set r.group m.index } ⟨vmem,vr0,vsets,vmr,.slice (some ⟨bk,0,none⟩) c.guess.length capg,ve2,vd,vrq,vop,vow,vw,vco,vou,van⟩ tb ps _ hE hD _ hT hK hO :=
      xT.mk P.mem P.rngs0 P.sets P.mr (hgset (c.guess.set r.group m.index) (by simp)) P.ended P.dbts P.reqs P.opn P.own P.txn P.waits P.coord P.out P.ansd
     refine zX M M (zQ M M M) (sending_spec w0 X b tb { c with guess:=c.guess.set r.group m.index } _ ps ⟨_,_,hE,hD,_,hT,hK,hO,hPg,rfl⟩ (by have:=hZ.bd.out; show c.out.length≤_; omega) i r hri p' e1 hcore.1 (by show (c.guess.set r.group m.index).length=5; rw [List.length_set]; exact hF.guess) hosz) ?_
     rintro _ _ hA2
     refine zbI ?_
     exact ⟨[],_,_,trivial,hA2.after,yJ.out⟩
    ·rw [if_neg (fun h=>n3 h.2.2)]
     refine zaD ?_
     repeat (first|refine zP ?_|refine zM ?_|refine zI M ?_)
     exact ⟨[],_,_,trivial,kP.now hS,yJ.out⟩
   ·rw [if_neg (fun h=>n2 (by omega))]
    refine zaR ?_
    repeat (first|refine zP ?_|refine zM ?_|refine zI M ?_)
    exact ⟨[],_,_,trivial,kP.now hS,yJ.out⟩
  ·rw [if_neg (fun h=>n1 (by omega))]
   refine zaR ?_
   repeat (first|refine zP ?_|refine zM ?_|refine zI M ?_)
   exact ⟨[],_,_,trivial,kP.now hS,yJ.out⟩
 rw [if_neg (by simpa using hok)]
 repeat (first|refine zF ?_|refine zB ?_|refine zY M M M M M ?_|refine yM M M M M M ?_|refine zP ?_)
 refine zX M M (zQ M M M) (getRes_spec w0 X _ m.data hd (by omega)) ?_
 rintro _ _ ⟨ar,cr,G,rfl,hrr,rfl⟩
 have hrl2:=getRes_len m.data
 generalize vR m.data=gr at *
 obtain ⟨⟨rc,rd⟩,re⟩:=gr
 simp only at hrr hrl2 ⊢
 repeat (first|refine zF ?_|refine zB ?_|refine zE ?_|refine zK M M M ?_|refine yY M (vs:=[_,_]) M M M M (c':=[_,_]) M M ?_|refine xK (c:=[_,_]) M M M (fun _=>?_))
 rename_i b7
 refine yF M M (xZ M M) (fun h=>?_) (fun h=>?_)
 ·rw [if_pos h]
  repeat (first|refine zE ?_|refine zM ?_|refine zJ M ?_)
  exact ⟨[],_,_,trivial,kP.now hS,yJ.out⟩
 rw [if_neg h]
 refine zbP ?_
 refine yB [] [0,1,2,3,4,5,6,7] (by kernel_rfl) M (by kernel_rfl) (by kernel_rfl) ?_
 refine zaF ?_
 refine yD M M M M (dD M M) ?_
 repeat (refine yI ?_)
 skip
 refine jP (fun g' L'=>∃ (gs:List Int) (R:Hp),(if m.src≤c.nodes then vQ c r.group m.src else c)={ c with guess:=gs }∧gs.length=c.guess.length∧(∀ g∈gs,0≤g∧g≤1000)∧Sub g' [(0,pB b),(5,pB b5),(6,pB b7)] ∧
  L'=(cliC b (clL c ⟨vmem,vr0,vsets,vmr,.slice (some ⟨bk,0,none⟩) c.guess.length capg,ve2,vd,vrq,vop,vow,vw,vco,vou,van⟩)+(pt b7 (.cells [.int .i64 rc,.slice ar rd.length cr].toArray 182 (0,0))+(pt b5 (.cells [pB p'.blk].toArray 142 (0,0))+(X+G+(pt bk (.cells (gs.map (Value.int .i64)++spg).toArray 3 (0,0))+(hE+(hD+(r1+(reqC p'.blk (reqL r (.slice b1 r.o.parts.length d1) (.slice b2 r.o.reads.length d2) (.slice b4 r.o.writes.length d4) (.slice b6 r.o.data.length d6) hv)+g2)+(hT+(hK+hO))))))+fr))))+R) ?_ ?_
 ·refine uU M (fun h2=>?_) (fun h2=>?_)
  ·rw [if_pos h2]
   skip
   refine yB [11] [0,1,2,3,4,5,6,7,8,9,10,11] (by kernel_rfl) M (by kernel_rfl) (by kernel_rfl) ?_
   refine zfA ?_
   refine xS M M M M (kA (c:=c.guess.map (Value.int .i64)++spg) M M M M (cells_getI c.guess spg hg5) (cells_setI c.guess spg hg5 m.src)) (xF.all _) ?_
   rintro _ _ rfl
   refine ⟨zka,?_⟩
   repeat (refine yI ?_)
   skip
   have hnn:=hZ.num.2.2.2.2.1
   refine ⟨c.guess.set r.group m.src,_,rfl,by simp,fun g hg=>?_,zsb,yJ.out⟩
   rcases List.mem_or_eq_of_mem_set hg with hg|rfl
   ·exact hZ.num.2.2.2.2.2 g hg
   ·omega
  ·rw [if_neg h2]
   repeat (refine zP ?_)
   exact ⟨c.guess,_,rfl,rfl,hZ.num.2.2.2.2.2,zsb,yJ.out⟩
 ·rintro g' _ ⟨gs,R,hif,hgl,hgz,hsub,rfl⟩
  refine jV hsub ?_
  clear hsub g'
  rw [hif]
  have hdel:=deleteFuncG_spec w0 (reqC p'.blk (reqL r (.slice b1 r.o.parts.length d1) (.slice b2 r.o.reads.length d2) (.slice b4 r.o.writes.length d4) (.slice b6 r.o.data.length d6) hv)+g2+pt b5 (.cells [pB p'.blk].toArray 142 (0,0))) (zipG ps c.reqs) vrq r1 113 [pB b5] (fun x=>decide (x.blk=p'.blk)) (r3.toG _ (ptr_zip hlp)) (by simp only [zipG,List.length_map,List.length_zip]; omega)
   (fun Y x e hx he=>by
    obtain ⟨k1,k2,f1,f2⟩:=(gZ.of r4).mem hx
    obtain ⟨u1,u2,u3,u4,u5,u6,u7,u8,u9,rfl,-⟩:=f1
    exact told2_spec w0 _ x.blk p'.blk b5 ⟨_,by rw [f2,yZ]⟩ ⟨_,by rw [yZ]⟩ jI)
  refine zdS ?_
  refine zX M M (zQ M M M) hdel ?_
  rintro v8 _ ⟨h8,ho8,rfl⟩
  rw [filter_erase hnd hzi] at ho8
  have hpe:ptrG ((zipG ps c.reqs).eraseIdx i)=ps.eraseIdx i:=by
   unfold ptrG
   rw [map_erase]
   exact congrArg (fun l=>l.eraseIdx i) (ptr_zip hlp)
  have ho9:=ho8.ofG (Y:=0)
  rw [hpe] at ho9
  obtain ⟨a9,c9,rfl⟩:=ho9.shape
  have hP3:xT w0 (X+G) b { c with guess:=gs,reqs:=c.reqs.eraseIdx i } ⟨vmem,vr0,vsets,vmr,.slice (some ⟨bk,0,none⟩) c.guess.length capg,ve2,vd,.slice a9 (ps.eraseIdx i).length c9,vop,vow,vw,vco,vou,van⟩ tb (ps.eraseIdx i) (pt bk (.cells (gs.map (Value.int .i64)++spg).toArray 3 (0,0))) hE hD (h8+g2) hT hK hO:=by
   have P2:=P.mono (L:=X+G) (R:=G) M
   exact xT.mk P2.mem P2.rngs0 P2.sets P2.mr (hgset gs hgl) P2.ended P2.dbts (ReqsAt.intro ho9 (e5.mono M)) P2.opn P2.own P2.txn P2.waits P2.coord P2.out P2.ansd
  have hZ3:Sz n { c with guess:=gs,reqs:=c.reqs.eraseIdx i }:=(hZ.guessed hgz).erase i
  have hF3:xG { c with guess:=gs,reqs:=c.reqs.eraseIdx i }:=⟨by show gs.length=5; rw [hgl]; exact hF.guess,fun q hq=>by obtain ⟨q',hq',rfl⟩:=List.mem_map.1 hq; exact hF.reqs _ (List.mem_map.2 ⟨q',List.mem_of_mem_eraseIdx hq',rfl⟩),hF.rngs,hF.parts,hF.asked,hF.doubts,hF.coord,hF.nmem⟩
  have hfit3:HearOk { c with guess:=gs,reqs:=c.reqs.eraseIdx i } r.heard:=by
   cases hrh:r.heard<;>rw [hrh] at hfit<;>first|trivial|exact hfit|(intro w hw; have:=hfit w hw; cases w<;>exact this)
  obtain ⟨k,caps,hfk,rfl,hrun⟩:=heardRun_spec w0 (X+G) b tb { c with guess:=gs,reqs:=c.reqs.eraseIdx i } _ n ⟨rc,rd⟩ ar cr ⟨_,_,_,hE,hD,_,hT,hK,hO,hP3,rfl⟩ hZ3 (by omega) hF3 (hrr.mono (uQ _ _)) (by simp only; omega) r.heard hv (hh.mono rfl) hfit3 hcore.2.1
  refine zeV ?_
  refine yB [5] [0,1,2,3,4,5] (by kernel_rfl) M (by kernel_rfl) (by kernel_rfl) ?_
  refine zfB ?_
  refine xU M M M M (zQ M M (by simp<;>rfl)) hrun (.drop (by kernel_rfl) (.drop (by kernel_rfl) (.drop (by kernel_rfl) .nil))) ?_
  rintro _ _ hA2
  refine ⟨trivial,?_⟩
  repeat (refine yI ?_)
  skip
  exact ⟨[],_,_,trivial,hA2.trans,yJ.out⟩
end
theorem qZ {w0:World} {b:Nat} (l:List Int) (n:Nat) (hn:l.length=n) (hl:l.length≤1000):OwL w0 0 l (.slice (some ⟨b,0,none⟩) n n) (pt b (.cells (l.map (Value.int .i64)).toArray 3 (0,0))):=by
 refine gF.2 ?_
 subst hn
 have:=jH (E:=3) (b:=b) (cap:=l.length) (spare:=[]) (size:=1) (bL l) (by rw [kM]; exact Nat.le_refl _) (by unfold maxLen; omega) (by rw [kM]; simp)
 rw [flat1,kM,List.append_nil] at this
 exact this
def hasF (k:Int):List Int :=
 if k=1 then [0,1,2,3] else
 if k=2 then [0,1,11] else
 if k=3 then [0,1,2,3,4,5,12] else
 if k=4 then [0,1,11,2,5] else
 if k=5 then [0,1,2,3,5,13] else
 if k=6 then [0,6,13] else
 if k=7 then [0,6,11,2,13] else
 if k=8 then [7,8,9] else
 if k=9 then [7,8,9,11,2,10] else if k=11 then [7,8,9,11,2,10] else if k=10 then [7,8,9,10] else []
def numsF (m:Msg):List Int:=[m.group,m.term,m.index,m.prev,m.commit,m.round,m.seq,m.txn,m.part,m.ballot,m.value]
def rngF (k n:Int):Bool:=if k=0 then decide (0≤n∧n≤4) else if k=7 then decide (1≤n∧n≤1099511627776) else if k=8 then decide (1≤n∧n≤4) else if k=10 then decide (0≤n∧n≤2) else decide (0≤n∧n≤1099511627776)
structure MayP (m:Msg):Prop where
 ents:m.entries=[]
 src:1≤m.src∧m.src≤199
 dst:1≤m.dst∧m.dst≤199
 rng:∀ k:Nat,k<11→(k:Int)∈hasF m.kind→rngF k ((numsF m).getD k 0)=true
structure GoodP (m:Msg):Prop where
 has:hasF m.kind≠[]
 nums:∀ k:Nat,k<11→(numsF m).getD k 0≠0→(k:Int)∈hasF m.kind
 ok:m.ok=true→11∈hasF m.kind
 data:m.data=[]
 may:MayP m
theorem has12_spec (w0:World) (X:Hp) (k:Int):yO Tryz.prog w0 130 [.int .i64 k] X (fun r h'=>∃ (l:List Int) (h:Hp),OwL w0 0 l r h∧l.length≤7∧(∀ x∈l,0≤x∧x≤13)∧l=hasF k∧X+h=h'):=by
 refine zN Tryz.func130 M Tryz.ntmps130 Tryz.results130 M fun fr=>?_
 refine zaL ?_
 refine yF M M (yK M M) (fun n0=>?_) (fun n0=>?_)
 ·repeat (first|refine zF ?_|refine zB ?_|refine zE ?_|refine zK M M M ?_|refine zM ?_|refine zJ M ?_|refine vM (vs:=[_,_,_,_]) (cells:=[_,_,_,_]) M M M M M M (fun _=>?_))
  rename_i b1
  have ho:=qZ (b:=b1) (w0:=w0) [0,1,2,3] 4 rfl (by decide)
  simp only [List.map_cons,List.map_nil] at ho
  exact ⟨[_],X+_,_,⟨rfl,trivial⟩,⟨_,_,ho,by decide,by decide,by rw [n0]; decide,rfl⟩,yJ.out⟩
 refine zaA ?_
 refine yF M M (yK M M) (fun n1=>?_) (fun n1=>?_)
 ·repeat (first|refine zF ?_|refine zB ?_|refine zE ?_|refine zK M M M ?_|refine zM ?_|refine zJ M ?_|refine vM (vs:=[_,_,_]) (cells:=[_,_,_]) M M M M M M (fun _=>?_))
  rename_i b1
  have ho:=qZ (b:=b1) (w0:=w0) [0,1,11] 3 rfl (by decide)
  simp only [List.map_cons,List.map_nil] at ho
  exact ⟨[_],X+_,_,⟨rfl,trivial⟩,⟨_,_,ho,by decide,by decide,by rw [n1]; decide,rfl⟩,yJ.out⟩
 refine zaA ?_
 refine yF M M (yK M M) (fun n2=>?_) (fun n2=>?_)
 ·repeat (first|refine zF ?_|refine zB ?_|refine zE ?_|refine zK M M M ?_|refine zM ?_|refine zJ M ?_|refine vM (vs:=[_,_,_,_,_,_,_]) (cells:=[_,_,_,_,_,_,_]) M M M M M M (fun _=>?_))
  rename_i b1
  have ho:=qZ (b:=b1) (w0:=w0) [0,1,2,3,4,5,12] 7 rfl (by decide)
  simp only [List.map_cons,List.map_nil] at ho
  exact ⟨[_],X+_,_,⟨rfl,trivial⟩,⟨_,_,ho,by decide,by decide,by rw [n2]; decide,rfl⟩,yJ.out⟩
 refine zaA ?_
 refine yF M M (yK M M) (fun n3=>?_) (fun n3=>?_)
 ·repeat (first|refine zF ?_|refine zB ?_|refine zE ?_|refine zK M M M ?_|refine zM ?_|refine zJ M ?_|refine vM (vs:=[_,_,_,_,_]) (cells:=[_,_,_,_,_]) M M M M M M (fun _=>?_))
  rename_i b1
  have ho:=qZ (b:=b1) (w0:=w0) [0,1,11,2,5] 5 rfl (by decide)
  simp only [List.map_cons,List.map_nil] at ho
  exact ⟨[_],X+_,_,⟨rfl,trivial⟩,⟨_,_,ho,by decide,by decide,by rw [n3]; decide,rfl⟩,yJ.out⟩
 refine zaA ?_
 refine yF M M (yK M M) (fun n4=>?_) (fun n4=>?_)
 ·repeat (first|refine zF ?_|refine zB ?_|refine zE ?_|refine zK M M M ?_|refine zM ?_|refine zJ M ?_|refine vM (vs:=[_,_,_,_,_,_]) (cells:=[_,_,_,_,_,_]) M M M M M M (fun _=>?_))
  rename_i b1
  have ho:=qZ (b:=b1) (w0:=w0) [0,1,2,3,5,13] 6 rfl (by decide)
  simp only [List.map_cons,List.map_nil] at ho
  exact ⟨[_],X+_,_,⟨rfl,trivial⟩,⟨_,_,ho,by decide,by decide,by rw [n4]; decide,rfl⟩,yJ.out⟩
 refine zaA ?_
 refine yF M M (yK M M) (fun n5=>?_) (fun n5=>?_)
 ·repeat (first|refine zF ?_|refine zB ?_|refine zE ?_|refine zK M M M ?_|refine zM ?_|refine zJ M ?_|refine vM (vs:=[_,_,_]) (cells:=[_,_,_]) M M M M M M (fun _=>?_))
  rename_i b1
  have ho:=qZ (b:=b1) (w0:=w0) [0,6,13] 3 rfl (by decide)
  simp only [List.map_cons,List.map_nil] at ho
  exact ⟨[_],X+_,_,⟨rfl,trivial⟩,⟨_,_,ho,by decide,by decide,by rw [n5]; decide,rfl⟩,yJ.out⟩
 refine zaA ?_
 refine yF M M (yK M M) (fun n6=>?_) (fun n6=>?_)
 ·repeat (first|refine zF ?_|refine zB ?_|refine zE ?_|refine zK M M M ?_|refine zM ?_|refine zJ M ?_|refine vM (vs:=[_,_,_,_,_]) (cells:=[_,_,_,_,_]) M M M M M M (fun _=>?_))
  rename_i b1
  have ho:=qZ (b:=b1) (w0:=w0) [0,6,11,2,13] 5 rfl (by decide)
  simp only [List.map_cons,List.map_nil] at ho
  exact ⟨[_],X+_,_,⟨rfl,trivial⟩,⟨_,_,ho,by decide,by decide,by rw [n6]; decide,rfl⟩,yJ.out⟩
 refine zaA ?_
 refine yF M M (yK M M) (fun n7=>?_) (fun n7=>?_)
 ·repeat (first|refine zF ?_|refine zB ?_|refine zE ?_|refine zK M M M ?_|refine zM ?_|refine zJ M ?_|refine vM (vs:=[_,_,_]) (cells:=[_,_,_]) M M M M M M (fun _=>?_))
  rename_i b1
  have ho:=qZ (b:=b1) (w0:=w0) [7,8,9] 3 rfl (by decide)
  simp only [List.map_cons,List.map_nil] at ho
  exact ⟨[_],X+_,_,⟨rfl,trivial⟩,⟨_,_,ho,by decide,by decide,by rw [n7]; decide,rfl⟩,yJ.out⟩
 refine zaA ?_
 refine yF M M (yK M M) (fun m1=>?_) (fun m1=>?_)
 ·repeat (first|refine zF ?_|refine zB ?_|refine zE ?_|refine zK M M M ?_|refine zP ?_|refine zM ?_|refine zJ M ?_|refine vM (vs:=[_,_,_,_,_,_]) (cells:=[_,_,_,_,_,_]) M M M M M M (fun _=>?_))
  rename_i b1
  have ho:=qZ (b:=b1) (w0:=w0) [7,8,9,11,2,10] 6 rfl (by decide)
  simp only [List.map_cons,List.map_nil] at ho
  exact ⟨[_],X+_,_,⟨rfl,trivial⟩,⟨_,_,ho,by decide,by decide,by rw [m1]; decide,rfl⟩,yJ.out⟩
 refine zaG ?_
 refine yF M M (yK M M) (fun m2=>?_) (fun m2=>?_)
 ·repeat (first|refine zF ?_|refine zB ?_|refine zE ?_|refine zK M M M ?_|refine zM ?_|refine zJ M ?_|refine vM (vs:=[_,_,_,_,_,_]) (cells:=[_,_,_,_,_,_]) M M M M M M (fun _=>?_))
  rename_i b1
  have ho:=qZ (b:=b1) (w0:=w0) [7,8,9,11,2,10] 6 rfl (by decide)
  simp only [List.map_cons,List.map_nil] at ho
  exact ⟨[_],X+_,_,⟨rfl,trivial⟩,⟨_,_,ho,by decide,by decide,by rw [m2]; decide,rfl⟩,yJ.out⟩
 refine zaA ?_
 refine yF M M (yK M M) (fun m3=>?_) (fun m3=>?_)
 ·repeat (first|refine zF ?_|refine zB ?_|refine zE ?_|refine zK M M M ?_|refine zM ?_|refine zJ M ?_|refine vM (vs:=[_,_,_,_]) (cells:=[_,_,_,_]) M M M M M M (fun _=>?_))
  rename_i b1
  have ho:=qZ (b:=b1) (w0:=w0) [7,8,9,10] 4 rfl (by decide)
  simp only [List.map_cons,List.map_nil] at ho
  exact ⟨[_],X+_,_,⟨rfl,trivial⟩,⟨_,_,ho,by decide,by decide,by rw [m3]; decide,rfl⟩,yJ.out⟩
 refine zbD ?_
 exact ⟨[_],X+0,_,⟨rfl,trivial⟩,⟨[],0,OwL.nil _ _,by decide,by decide,by unfold hasF; rw [if_neg n0,if_neg n1,if_neg n2,if_neg n3,if_neg n4,if_neg n5,if_neg n6,if_neg n7,if_neg m1,if_neg m2,if_neg m3],rfl⟩,by rw [yA]; exact yJ.out⟩
theorem in12_spec (w0:World) (X:Hp) (l:List Int) (a:Option Addr) (c:Nat) (k:Int) (hv:RdL w0 X (.slice a l.length c) l) (hl:l.length≤1000) :
  yO Tryz.prog w0 214 [.slice a l.length c,.int .i64 k] X (fun r h'=>r=.bool (decide (k∈l))∧X=h'):=by
 refine zN Tryz.func214 M Tryz.ntmps214 Tryz.results214 M fun fr=>?_
 refine zaL ?_
 refine yN l.length (fun i g L=>∃ R:Hp,g=[(0,.slice a l.length c),(1,.int .i64 k),(5,.int .i64 i)]∧k∉l.take i∧L=X+fr+R) _ ⟨0,rfl,by simp,(yA _).symm⟩ zsb ?_
 rintro i g L hi ⟨R,rfl,hp,rfl⟩
 refine zaP ?_
 refine yF M M (yS M M) (fun n1=>?_) (fun n1=>?_)
 ·have hx:i<l.length:=by omega
  obtain ⟨b2,o2,rfl,e,rfl,hat⟩:=hv.at hx
  refine zaT ?_
  refine yF M M (yK M M) (fun n2=>?_) (fun n2=>?_)
  ·refine zaB ?_
   exact ⟨[_],X,_,⟨rfl,trivial⟩,⟨congrArg Value.bool (decide_eq_true (by rw [← n2]; exact List.getElem_mem hx)).symm,rfl⟩,yJ.out⟩
  ·refine zaJ ?_
   refine ⟨hx,_,zsb,_,rfl,?_,yJ.out⟩
   rw [List.take_succ_eq_append_getElem hx,List.mem_append,List.mem_singleton]
   rintro (h|h)
   ·exact hp h
   ·exact n2 h.symm
 ·rw [List.take_of_length_le (by omega)] at hp
  refine zaK ?_
  exact ⟨[_],X,_,⟨rfl,trivial⟩,⟨congrArg Value.bool (decide_eq_false hp).symm,rfl⟩,yJ.out⟩
theorem numbers12_spec (w0:World) (X:Hp) (m:Msg) (ve vd:Value) (h1:ve.oneCell'=true) (h2:vd.oneCell'=true) :
  yO Tryz.prog w0 131 [.agg (xI m ve vd).toArray] X (fun r h'=>∃ (l:List Int) (h:Hp),OwL w0 0 l r h∧l=numsF m∧X+h=h'):=by
 refine zN Tryz.func131 M Tryz.ntmps131 Tryz.results131 M fun fr=>?_
 repeat (first|refine zF ?_|refine zB ?_|refine zE ?_|refine zK M M M ?_|refine zY M M M M M ?_|refine yM M M M M M ?_|refine zM ?_|refine xN M (c:=[_,_,_,_,_,_,_,_,_,_,_,_,_,_,_,_,_]) M M M (fun _=>?_)|refine vM (vs:=[_,_,_,_,_,_,_,_,_,_,_]) (cells:=[_,_,_,_,_,_,_,_,_,_,_]) M M M M M M (fun _=>?_))
 rename_i b1 b2
 have ho:=qZ (b:=b2) (w0:=w0) [m.group,m.term,m.index,m.prev,m.commit,m.round,m.seq,m.txn,m.part,m.ballot,m.value] 11 rfl (by simp)
 simp only [List.map_cons,List.map_nil] at ho
 exact ⟨[_],X+_,_,⟨rfl,trivial⟩,⟨_,_,ho,rfl,rfl⟩,yJ.out⟩
theorem ranged12_spec (w0:World) (X:Hp) (k n:Int):yO Tryz.prog w0 285 [.int .i64 k,.int .i64 n] X (fun r h'=>r=.bool (rngF k n)∧X=h'):=by
 refine zN Tryz.func285 M Tryz.ntmps285 Tryz.results285 M fun fr=>?_
 repeat' (first|refine zF ?_|refine zB ?_|refine zE ?_|refine zK M M M ?_|refine xE M M ?_|refine zP ?_|refine zM ?_|refine zJ M ?_|refine zI M ?_|refine yF M M (dD M M) (fun _=>?_) (fun _=>?_)|refine yF M M (kQ M M) (fun _=>?_) (fun _=>?_)|refine yF M M (yK M M) (fun _=>?_) (fun _=>?_)|exact ⟨[_],X,_,⟨rfl,trivial⟩,⟨congrArg Value.bool (by unfold rngF; repeat' split; all_goals first|exact (decide_eq_true (by omega)).symm|exact (decide_eq_false (by omega)).symm|(exfalso; omega)),rfl⟩,yJ.out⟩|done)
theorem may12_spec (w0:World) (X:Hp) (m:Msg) (ea da:Option Addr) (ec dc:Nat) (he:RdL w0 X (.slice ea m.entries.length ec) m.entries) (hel:m.entries.length≤1000) :
  yO Tryz.prog w0 215 [.agg (xI m (.slice ea m.entries.length ec) (.slice da m.data.length dc)).toArray] X (fun r h'=>∃ q:Bool,r=.bool q∧(MayP m→q=true)∧X=h'):=by
 refine zN Tryz.func215 M Tryz.ntmps215 Tryz.results215 M fun fr=>?_
 repeat (first|refine zF ?_|refine zB ?_|refine zE ?_|refine zK M M M ?_|refine zY M M M M M ?_|refine yM M M M M M ?_|refine xN M (c:=[_,_,_,_,_,_,_,_,_,_,_,_,_,_,_,_,_]) M M M (fun _=>?_))
 rename_i b1
 repeat' (first|refine zF ?_|refine zB ?_|refine zE ?_|refine zK M M M ?_|refine zY M M M M M ?_|refine yM M M M M M ?_|refine xE M M ?_|refine zP ?_|refine zM ?_|refine zJ M ?_|refine zI M ?_|refine xJ M (vs:=[_,_,_,_,_,_,_,_,_,_,_,_,_,_,_,_,_]) M M M M M ?_|refine yF M M (yS M M) (fun _=>?_) (fun _=>?_)|refine yF M M (kB M M) (fun _=>?_) (fun _=>?_)|exact ⟨[_],X,_,⟨rfl,trivial⟩,⟨_,rfl,(fun hp=>by have h1:=hp.src; have h2:=hp.dst; exfalso; omega),rfl⟩,yJ.out⟩|done)
 refine zX M M (zQ M M M) (numbers12_spec w0 X m _ _ rfl M) ?_
 rintro v1 _ ⟨l,h1,ho1,hl1,rfl⟩
 have hl11:l.length=11:=by rw [hl1]; rfl
 obtain ⟨a1,c1,rfl⟩:=ho1.shape
 refine zbA ?_
 refine zX M M (zQ M M M) (has12_spec w0 X m.kind) ?_
 rintro v2 _ ⟨lh,h2,ho2,hl2,hl3,hl4,rfl⟩
 obtain ⟨a2,c2,rfl⟩:=ho2.shape
 refine zaL ?_
 refine yN l.length (fun k g L=>∃ R:Hp,g=[(1,pB b1),(3,.slice a1 l.length c1),(4,.slice a2 lh.length c2),(5,.int .i64 k)] ∧
  L=pt b1 (.cells (xI m (.slice ea m.entries.length ec) (.slice da m.data.length dc)).toArray 55 (0,0))+(X+h1+h2+fr)+R) _ ⟨_,rfl,yJ.out⟩ zsb ?_
 rintro k g L hk ⟨R,rfl,rfl⟩
 refine zaP ?_
 refine yF M M (yS M M) (fun n1=>?_) (fun n1=>?_)
 ·have hx:k<l.length:=by omega
  refine zaZ ?_
  refine zX M M (zQ M M M) (in12_spec w0 h2 lh a2 c2 k ho2.rdh (by omega)) ?_
  rintro _ _ ⟨rfl,rfl⟩
  cases hdk:decide ((k:Int)∈lh)
  ·refine zcU ?_
   exact ⟨hx,_,zsb,_,rfl,yJ.out⟩
  ·obtain ⟨b3,o3,rfl,e,rfl,hat⟩:=ho1.rdh.at hx
   repeat (first|refine zK M M M ?_|refine kC M M (by omega) M M ?_|refine wA M (by assumption) M M M M ?_)
   refine zX M M (zQ M M M) (ranged12_spec w0 X k l[k]) ?_
   rintro _ _ ⟨rfl,rfl⟩
   cases hq:rngF k l[k]
   ·refine zaB ?_
    refine ⟨[_],X,_,⟨rfl,trivial⟩,⟨false,rfl,fun hp=>?_,rfl⟩,yJ.out⟩
    have h3:=hp.rng k (by omega) (by rw [← hl4]; exact of_decide_eq_true hdk)
    subst hl1
    rw [List.getD_eq_getElem?_getD,List.getElem?_eq_getElem hx] at h3
    exact absurd h3 (by rw [show (some (numsF m)[k]).getD 0=(numsF m)[k] from rfl,hq]; decide)
   ·refine zaJ ?_
    exact ⟨hx,_,zsb,_,rfl,yJ.out⟩
 refine zcP ?_
 refine yN m.entries.length (fun k g L=>∃ R:Hp,g=[(1,pB b1),(6,.int .i64 k)] ∧
  L=pt b1 (.cells (xI m (.slice ea m.entries.length ec) (.slice da m.data.length dc)).toArray 55 (0,0))+(X+fr)+R) _ ⟨_,rfl,yJ.out⟩ zsb ?_
 rintro k g L hk ⟨R,rfl,rfl⟩
 refine zcV ?_
 refine yF M M (yS M M) (fun n1=>?_) (fun n1=>?_)
 ·have hx:k<m.entries.length:=by omega
  obtain ⟨b3,o3,rfl,e,he1,hat⟩:=he.at hx
  obtain ⟨a4,c4,rfl,hrd⟩:=id he1
  repeat (first|refine zF ?_|refine zR ?_|refine zB ?_|refine zE ?_|refine zK M M M ?_|refine zY M M M M M ?_|refine yM M M M M M ?_|refine zP ?_|refine zJ M ?_|refine kC M M (by omega) M M ?_|refine vU M (by assumption) M M M M ?_|refine yY M (vs:=[_,_,_]) M M M M (c':=[_,_,_]) M M ?_|refine xK (c:=[_,_,_]) M M M (fun _=>?_))
  repeat' (first|refine zF ?_|refine zB ?_|refine zE ?_|refine zK M M M ?_|refine zY M M M M M ?_|refine yM M M M M M ?_|refine xE M M ?_|refine zP ?_|refine zM ?_|refine zJ M ?_|refine zI M ?_|refine yU M M (by omega) (by omega) M M ?_|refine yF M M (yS M M) (fun _=>?_) (fun _=>?_)|refine yF M M (kB M M) (fun _=>?_) (fun _=>?_)|first|exact ⟨[_],X,_,⟨rfl,trivial⟩,⟨_,rfl,(fun hp=>absurd hx (by rw [hp.ents]; exact Nat.not_lt_zero _)),rfl⟩,yJ.out⟩|exact ⟨hx,_,zsb,_,rfl,yJ.out⟩|done)
 ·refine zaK ?_
  exact ⟨[_],X,_,⟨rfl,trivial⟩,⟨_,rfl,(fun _=>rfl),rfl⟩,yJ.out⟩
theorem zfC {G G' : Prop} (h : G') (f : Zh G'→G:=by intro h; (repeat (first|refine yH M M M M M ?_|refine yD M M M M (zZ M M M) ?_|refine yQ M M M M (yE M) (zG M (zS M)) ?_|refine yD M M M M (pv_len M) ?_|refine yD M M M M (dE M M (by omega) (by omega)) ?_)); exact h.o) : G:=f ⟨h⟩
theorem long12_spec (w0:World) (X:Hp) (m:Msg) (ea da:Option Addr) (ec dc:Nat) (he:RdL w0 X (.slice ea m.entries.length ec) m.entries) (hel:m.entries.length≤1000) (hed:∀ e∈m.entries,e.data.length≤20000) (hdl:m.data.length≤20000) :
  yO Tryz.prog w0 216 [.agg (xI m (.slice ea m.entries.length ec) (.slice da m.data.length dc)).toArray] X (fun r h'=>∃ q:Bool,r=.bool q∧(m.entries=[]∧m.data=[]→q=false)∧X=h'):=by
 refine zN Tryz.func216 M Tryz.ntmps216 Tryz.results216 M fun fr=>?_
 repeat (first|refine zF ?_|refine zB ?_|refine zE ?_|refine zK M M M ?_|refine zY M M M M M ?_|refine yM M M M M M ?_|refine yT M M M ?_|refine xN M (c:=[_,_,_,_,_,_,_,_,_,_,_,_,_,_,_,_,_]) M M M (fun _=>?_))
 rename_i b1
 repeat' (first|refine zF ?_|refine zR ?_|refine zB ?_|refine zE ?_|refine zK M M M ?_|refine zY M M M M M ?_|refine yM M M M M M ?_|refine yT M M M ?_|refine zP ?_|refine zI M ?_|refine yP M M (kB M M) (by omega) ?_|done)
 refine yN m.entries.length (fun k g L=>∃ R:Hp,g=[(1,pB b1),(3,.int .i64 k)] ∧
  L=pt b1 (.cells (xI m (.slice ea m.entries.length ec) (.slice da m.data.length dc)).toArray 55 (0,0))+(X+fr)+R) _ ⟨0,rfl,by rw [yA]⟩ zsb ?_
 rintro k g L hk ⟨R,rfl,rfl⟩
 refine zcV ?_
 refine yF M M (yS M M) (fun n1=>?_) (fun n1=>?_)
 ·have hx:k<m.entries.length:=by omega
  obtain ⟨b3,o3,rfl,e,he1,hat⟩:=he.at hx
  obtain ⟨a4,c4,rfl,hrd⟩:=id he1
  repeat (first|refine zF ?_|refine zR ?_|refine zB ?_|refine zE ?_|refine zK M M M ?_|refine zY M M M M M ?_|refine yM M M M M M ?_|refine yT M M M ?_|refine zP ?_|refine zJ M ?_|refine kC M M (by omega) M M ?_|refine gO M (by assumption) M M M M ?_)
  refine yF M M (kB M M) (fun n2=>?_) (fun n2=>?_)
  ·refine zaB ?_
   exact ⟨[_],X,_,⟨rfl,trivial⟩,⟨_,rfl,(fun hp=>by have e1:m.entries.length=0:=(by rw [hp.1]; rfl); have e2:m.data.length=0:=(by rw [hp.2]; rfl); exfalso; omega),rfl⟩,yJ.out⟩
  ·refine zaJ ?_
   exact ⟨hx,_,zsb,_,rfl,yJ.out⟩
 refine zcP ?_
 refine yN m.entries.length (fun k g L=>∃ (n:Int) (R:Hp),g=[(1,pB b1),(4,.int .i64 n),(5,.int .i64 k)]∧0≤n∧n≤(k:Int)*100000 ∧
  L=pt b1 (.cells (xI m (.slice ea m.entries.length ec) (.slice da m.data.length dc)).toArray 55 (0,0))+(X+fr)+R) _ ⟨0,_,rfl,by omega,by omega,yJ.out⟩ zsb ?_
 rintro k g L hk ⟨n,R,rfl,hn0,hn1,rfl⟩
 refine zcV ?_
 refine yF M M (yS M M) (fun n1=>?_) (fun n1=>?_)
 ·have hx:k<m.entries.length:=by omega
  have hdd:=hed _ (List.getElem_mem hx)
  obtain ⟨b3,o3,rfl,e,he1,hat⟩:=he.at hx
  obtain ⟨a4,c4,rfl,hrd⟩:=id he1
  repeat (first|refine zF ?_|refine zR ?_|refine zB ?_|refine zE ?_|refine zK M M M ?_|refine zY M M M M M ?_|refine yM M M M M M ?_|refine yT M M M ?_|refine zP ?_|refine zJ M ?_|refine yU M M (by omega) (by omega) M M ?_|refine kC M M (by omega) M M ?_|refine gO M (by assumption) M M M M ?_)
  exact ⟨hx,_,zsb,_,_,rfl,by omega,by omega,yJ.out⟩
 refine zbU ?_
 refine yB [7] [0,1,2,3,4,5,6,7,8,9,10,11,12,13] (by kernel_rfl) M (by kernel_rfl) (by kernel_rfl) ?_
 refine zfC ?_
 refine xU M M M M (zQ M M M) (has12_spec w0 X m.kind) (xF.all _) ?_
 rintro v2 _ ⟨lh,h2,ho2,hl2,hl3,hl4,rfl⟩
 obtain ⟨a2,c2,rfl⟩:=ho2.shape
 refine ⟨zka,?_⟩
 repeat (first|refine yD M M M M (pv_len M) ?_|refine yD M M M M (dE M M (by omega) (by omega)) ?_)
 refine yD M M M M (pv_mul M M (by omega) (by omega)) ?_
 repeat (refine yD M M M M (dE M M (by omega) (by omega)) ?_)
 refine yD M M M M (kB M M) ?_
 refine zaD ?_
 repeat (refine zM ?_)
 exact ⟨[_],X,_,⟨rfl,trivial⟩,⟨_,rfl,(fun hp=>by have e1:m.entries.length=0:=(by rw [hp.1]; rfl); have e2:m.data.length=0:=(by rw [hp.2]; rfl); exact decide_eq_false (by omega)),rfl⟩,yJ.out⟩
theorem zcE {G G' : Prop} (h : G') (f : Zh G'→G:=by intro h; (repeat (first|refine zE ?_|refine zK M M M ?_|refine xE M M ?_)); exact h.o) : G:=f ⟨h⟩
theorem zdV {G G' : Prop} (h : G') (f : Zh G'→G:=by intro h; (repeat (first|refine zK M M M ?_|refine zY M M M M M ?_|refine yM M M M M M ?_|refine yT M M M ?_|refine xE M M ?_)); exact h.o) : G:=f ⟨h⟩
theorem refCheck12_spec (w0:World) (X:Hp) (m:Msg) (ea da:Option Addr) (ec dc:Nat) (he:RdL w0 X (.slice ea m.entries.length ec) m.entries) (hel:m.entries.length≤1000) (hed:∀ e∈m.entries,e.data.length≤20000) (hdl:m.data.length≤20000) :
  yO Tryz.prog w0 128 [.agg (xI m (.slice ea m.entries.length ec) (.slice da m.data.length dc)).toArray] X (fun r h'=>∃ e:Int,r=.int .i64 e∧(GoodP m→e=0)∧X=h'):=by
 have hmay:=may12_spec w0 X m ea da ec dc he hel
 have hlong:=long12_spec w0 X m ea da ec dc he hel hed hdl
 refine zN Tryz.func128 M Tryz.ntmps128 Tryz.results128 M fun fr=>?_
 repeat (first|refine zF ?_|refine zB ?_|refine zE ?_|refine zK M M M ?_|refine zY M M M M M ?_|refine yM M M M M M ?_|refine xN M (c:=[_,_,_,_,_,_,_,_,_,_,_,_,_,_,_,_,_]) M M M (fun _=>?_))
 rename_i b1
 refine zX M M (zQ M M M) (has12_spec w0 X m.kind) ?_
 rintro v2 _ ⟨lh,h2,ho2,hl2,hl3,hl4,rfl⟩
 obtain ⟨a2,c2,rfl⟩:=ho2.shape
 refine zbC ?_
 refine yF M M (yK M M) (fun n0=>?_) (fun n0=>?_)
 ·refine zaB ?_
  exact ⟨[_],X,_,⟨rfl,trivial⟩,⟨_,rfl,(fun hg=>absurd (List.eq_nil_of_length_eq_zero (by rw [← hl4]; omega)) hg.has),rfl⟩,yJ.out⟩
 repeat (first|refine zF ?_|refine zB ?_|refine zE ?_|refine zP ?_|refine zI M ?_|refine xJ M (vs:=[_,_,_,_,_,_,_,_,_,_,_,_,_,_,_,_,_]) M M M M M ?_)
 refine zX M M (zQ M M M) (numbers12_spec w0 X m _ _ rfl M) ?_
 rintro v1 _ ⟨l,h1,ho1,hl1,rfl⟩
 have hl11:l.length=11:=by rw [hl1]; rfl
 obtain ⟨a1,c1,rfl⟩:=ho1.shape
 refine zaL ?_
 refine yN l.length (fun k g L=>∃ R:Hp,g=[(1,pB b1),(3,.slice a2 lh.length c2),(4,.slice a1 l.length c1),(5,.int .i64 k)] ∧
  L=pt b1 (.cells (xI m (.slice ea m.entries.length ec) (.slice da m.data.length dc)).toArray 55 (0,0))+(X+h1+h2+fr)+R) _ ⟨_,rfl,yJ.out⟩ zsb ?_
 rintro k g L hk ⟨R,rfl,rfl⟩
 have hin:=fun (y:Int)=>in12_spec w0 h2 lh a2 c2 y ho2.rdh (by omega)
 refine zaP ?_
 refine yF M M (yS M M) (fun n1=>?_) (fun n1=>?_)
 ·have hx:k<l.length:=by omega
  obtain ⟨b3,o3,rfl,e,rfl,hat⟩:=ho1.rdh.at hx
  refine zaT ?_
  refine yF M M (xZ M M) (fun n2=>?_) (fun n2=>?_)
  ·repeat (refine zK M M M ?_)
   refine zX M M (zQ M M M) (hin k) ?_
   rintro _ _ ⟨rfl,rfl⟩
   cases hdk:decide ((k:Int)∈lh)
   ·refine zaB ?_
    refine ⟨[_],X,_,⟨rfl,trivial⟩,⟨_,rfl,fun hg=>?_,rfl⟩,yJ.out⟩
    refine absurd (hg.nums k (by omega) ?_) (by rw [← hl4]; exact of_decide_eq_false hdk)
    subst hl1
    rw [List.getD_eq_getElem?_getD,List.getElem?_eq_getElem hx]
    exact n2
   ·refine zaJ ?_
    exact ⟨hx,_,zsb,_,rfl,yJ.out⟩
  ·refine zcU ?_
   exact ⟨hx,_,zsb,_,rfl,yJ.out⟩
 refine zE ?_
 repeat (first|refine zF ?_|refine zI M ?_|refine yC ?_)
 refine jP (fun g' L'=>∃ (q:Bool) (R3:Hp),Sub g' [(1,pB b1),(59,.bool q)]∧(GoodP m→q=false)∧L'=pt b1 (.cells (xI m (.slice ea m.entries.length ec) (.slice da m.data.length dc)).toArray 55 (0,0))+(X+h1+h2+fr)+R3) ?_ ?_
 ·refine zdR ?_
  cases hok:m.ok
  ·refine zdV ?_
   refine yF M M (kB M M) (fun n12=>?_) (fun n12=>?_)
   ·repeat (refine zK M M M ?_)
    refine zX M M (zQ M M M) (hin 12) ?_
    rintro _ _ ⟨rfl,rfl⟩
    cases hd12:decide ((12:Int)∈lh)
    ·refine zcE ?_
     exact ⟨_,_,zsb,(fun hg=>by have e1:m.entries.length=0:=(by rw [hg.may.ents]; rfl); have e2:m.data.length=0:=(by rw [hg.data]; rfl); first|rfl|(exfalso; omega)|exact absurd (by rw [hl4]; exact hg.ok hok) (of_decide_eq_false hd11)),yJ.out⟩
    ·refine zbW ?_
     refine yF M M (kB M M) (fun n13=>?_) (fun n13=>?_)
     ·repeat (refine zK M M M ?_)
      refine zX M M (zQ M M M) (hin 13) ?_
      rintro _ _ ⟨rfl,rfl⟩
      cases hd13:decide ((13:Int)∈lh)
      ·refine zaQ ?_
       exact ⟨_,_,zsb,(fun hg=>by have e1:m.entries.length=0:=(by rw [hg.may.ents]; rfl); have e2:m.data.length=0:=(by rw [hg.data]; rfl); first|rfl|(exfalso; omega)|exact absurd (by rw [hl4]; exact hg.ok hok) (of_decide_eq_false hd11)),yJ.out⟩
      ·refine zaQ ?_
       exact ⟨_,_,zsb,(fun hg=>by have e1:m.entries.length=0:=(by rw [hg.may.ents]; rfl); have e2:m.data.length=0:=(by rw [hg.data]; rfl); first|rfl|(exfalso; omega)|exact absurd (by rw [hl4]; exact hg.ok hok) (of_decide_eq_false hd11)),yJ.out⟩
     ·refine zcE ?_
      exact ⟨_,_,zsb,(fun hg=>by have e1:m.entries.length=0:=(by rw [hg.may.ents]; rfl); have e2:m.data.length=0:=(by rw [hg.data]; rfl); first|rfl|(exfalso; omega)|exact absurd (by rw [hl4]; exact hg.ok hok) (of_decide_eq_false hd11)),yJ.out⟩
   ·refine zdV ?_
    refine yF M M (kB M M) (fun n13=>?_) (fun n13=>?_)
    ·repeat (refine zK M M M ?_)
     refine zX M M (zQ M M M) (hin 13) ?_
     rintro _ _ ⟨rfl,rfl⟩
     cases hd13:decide ((13:Int)∈lh)
     ·refine zaQ ?_
      exact ⟨_,_,zsb,(fun hg=>by have e1:m.entries.length=0:=(by rw [hg.may.ents]; rfl); have e2:m.data.length=0:=(by rw [hg.data]; rfl); first|rfl|(exfalso; omega)|exact absurd (by rw [hl4]; exact hg.ok hok) (of_decide_eq_false hd11)),yJ.out⟩
     ·refine zaQ ?_
      exact ⟨_,_,zsb,(fun hg=>by have e1:m.entries.length=0:=(by rw [hg.may.ents]; rfl); have e2:m.data.length=0:=(by rw [hg.data]; rfl); first|rfl|(exfalso; omega)|exact absurd (by rw [hl4]; exact hg.ok hok) (of_decide_eq_false hd11)),yJ.out⟩
    ·refine zcE ?_
     exact ⟨_,_,zsb,(fun hg=>by have e1:m.entries.length=0:=(by rw [hg.may.ents]; rfl); have e2:m.data.length=0:=(by rw [hg.data]; rfl); first|rfl|(exfalso; omega)|exact absurd (by rw [hl4]; exact hg.ok hok) (of_decide_eq_false hd11)),yJ.out⟩
  ·repeat (refine zK M M M ?_)
   refine zX M M (zQ M M M) (hin 11) ?_
   rintro _ _ ⟨rfl,rfl⟩
   cases hd11:decide ((11:Int)∈lh)
   ·refine zcE ?_
    exact ⟨_,_,zsb,(fun hg=>by have e1:m.entries.length=0:=(by rw [hg.may.ents]; rfl); have e2:m.data.length=0:=(by rw [hg.data]; rfl); first|rfl|(exfalso; omega)|exact absurd (by rw [hl4]; exact hg.ok hok) (of_decide_eq_false hd11)),yJ.out⟩
   ·refine zbW ?_
    refine yF M M (kB M M) (fun n12=>?_) (fun n12=>?_)
    ·repeat (refine zK M M M ?_)
     refine zX M M (zQ M M M) (hin 12) ?_
     rintro _ _ ⟨rfl,rfl⟩
     cases hd12:decide ((12:Int)∈lh)
     ·refine zcE ?_
      exact ⟨_,_,zsb,(fun hg=>by have e1:m.entries.length=0:=(by rw [hg.may.ents]; rfl); have e2:m.data.length=0:=(by rw [hg.data]; rfl); first|rfl|(exfalso; omega)|exact absurd (by rw [hl4]; exact hg.ok hok) (of_decide_eq_false hd11)),yJ.out⟩
     ·refine zbW ?_
      refine yF M M (kB M M) (fun n13=>?_) (fun n13=>?_)
      ·repeat (refine zK M M M ?_)
       refine zX M M (zQ M M M) (hin 13) ?_
       rintro _ _ ⟨rfl,rfl⟩
       cases hd13:decide ((13:Int)∈lh)
       ·refine zaQ ?_
        exact ⟨_,_,zsb,(fun hg=>by have e1:m.entries.length=0:=(by rw [hg.may.ents]; rfl); have e2:m.data.length=0:=(by rw [hg.data]; rfl); first|rfl|(exfalso; omega)|exact absurd (by rw [hl4]; exact hg.ok hok) (of_decide_eq_false hd11)),yJ.out⟩
       ·refine zaQ ?_
        exact ⟨_,_,zsb,(fun hg=>by have e1:m.entries.length=0:=(by rw [hg.may.ents]; rfl); have e2:m.data.length=0:=(by rw [hg.data]; rfl); first|rfl|(exfalso; omega)|exact absurd (by rw [hl4]; exact hg.ok hok) (of_decide_eq_false hd11)),yJ.out⟩
      ·refine zcE ?_
       exact ⟨_,_,zsb,(fun hg=>by have e1:m.entries.length=0:=(by rw [hg.may.ents]; rfl); have e2:m.data.length=0:=(by rw [hg.data]; rfl); first|rfl|(exfalso; omega)|exact absurd (by rw [hl4]; exact hg.ok hok) (of_decide_eq_false hd11)),yJ.out⟩
    ·refine zdV ?_
     refine yF M M (kB M M) (fun n13=>?_) (fun n13=>?_)
     ·repeat (refine zK M M M ?_)
      refine zX M M (zQ M M M) (hin 13) ?_
      rintro _ _ ⟨rfl,rfl⟩
      cases hd13:decide ((13:Int)∈lh)
      ·refine zaQ ?_
       exact ⟨_,_,zsb,(fun hg=>by have e1:m.entries.length=0:=(by rw [hg.may.ents]; rfl); have e2:m.data.length=0:=(by rw [hg.data]; rfl); first|rfl|(exfalso; omega)|exact absurd (by rw [hl4]; exact hg.ok hok) (of_decide_eq_false hd11)),yJ.out⟩
      ·refine zaQ ?_
       exact ⟨_,_,zsb,(fun hg=>by have e1:m.entries.length=0:=(by rw [hg.may.ents]; rfl); have e2:m.data.length=0:=(by rw [hg.data]; rfl); first|rfl|(exfalso; omega)|exact absurd (by rw [hl4]; exact hg.ok hok) (of_decide_eq_false hd11)),yJ.out⟩
     ·refine zcE ?_
      exact ⟨_,_,zsb,(fun hg=>by have e1:m.entries.length=0:=(by rw [hg.may.ents]; rfl); have e2:m.data.length=0:=(by rw [hg.data]; rfl); first|rfl|(exfalso; omega)|exact absurd (by rw [hl4]; exact hg.ok hok) (of_decide_eq_false hd11)),yJ.out⟩
 rintro g' _ ⟨q,R3,hsub,hgq,rfl⟩
 refine jV hsub ?_
 clear hsub g'
 cases q
 rotate_left
 ·refine zaB ?_
  exact ⟨[_],X,_,⟨rfl,trivial⟩,⟨_,rfl,(fun hg=>by cases hgq hg),rfl⟩,yJ.out⟩
 repeat (first|refine zF ?_|refine zB ?_|refine zP ?_|refine zI M ?_|refine xJ M (vs:=[_,_,_,_,_,_,_,_,_,_,_,_,_,_,_,_,_]) M M M M M ?_)
 refine zX M M (zQ M M M) hmay ?_
 rintro _ _ ⟨q,rfl,hm1,rfl⟩
 cases q
 ·refine zaB ?_
  exact ⟨[_],X,_,⟨rfl,trivial⟩,⟨_,rfl,(fun hg=>by cases hm1 hg.may),rfl⟩,yJ.out⟩
 refine zeI ?_
 refine zX M M (zQ M M M) hlong ?_
 rintro _ _ ⟨q,rfl,hm2,rfl⟩
 cases q
 ·refine zbD ?_
  exact ⟨[_],X,_,⟨rfl,trivial⟩,⟨_,rfl,(fun _=>rfl),rfl⟩,yJ.out⟩
 ·refine zaB ?_
  exact ⟨[_],X,_,⟨rfl,trivial⟩,⟨_,rfl,(fun hg=>by cases hm2 ⟨hg.may.ents,hg.data⟩),rfl⟩,yJ.out⟩
theorem refFour_spec (w0:World) (X:Hp) (s:Nat) :
  yO Tryz.prog w0 217 [.int .u32 (s:Int)] X (fun r h'=>∃ h,OwL w0 0 (be4 s) r h∧X+h=h'):=by
 refine zN Tryz.func217 M Tryz.ntmps217 Tryz.results217 M fun fr=>?_
 refine zaC ?_
 refine yG M M (pv_shr M M (by decide)) ?_
 refine yG M M (kV M (sb24 .u32 s (by decide))) ?_
 repeat (refine zK M M M ?_)
 refine yG M M (pv_shr M M (by decide)) ?_
 refine yG M M (kV M (sb16 .u32 s (by decide))) ?_
 repeat (refine zK M M M ?_)
 refine yG M M (pv_shr M M (by decide)) ?_
 refine yG M M (kV M (sb8 .u32 s (by decide))) ?_
 repeat (refine zK M M M ?_)
 refine yG M M (kV M (sb0 s)) ?_
 repeat (first|refine zE ?_|refine zK M M M ?_|refine zM ?_|refine vM (vs:=[_,_,_,_]) (cells:=[_,_,_,_]) M M M M M M (fun _=>?_))
 rename_i b2
 exact ⟨[_],X+_,_,⟨rfl,trivial⟩,⟨_,row4 (w0:=w0) (b:=b2) s,rfl⟩,yJ.out⟩
theorem refOf_spec (w0:World) (X:Hp) (v:Value) (bs:List Bt) (hv:RdL w0 X v bs) (hl:bs.length≤1000000000000) :
  yO Tryz.prog w0 219 [v] X (fun r h'=>r=.int .u32 (crcF 0 bs:Nat)∧X=h'):=by
 have h:=refMore_spec w0 X v bs 0 (by decide) hv hl
 obtain ⟨a,c,rfl⟩:=hv.shape
 refine zN Tryz.func219 M Tryz.ntmps219 Tryz.results219 M fun fr=>?_
 refine zaC ?_
 refine zX M M (zQ M M M) h ?_
 rintro _ _ ⟨rfl,rfl⟩
 refine zaE ?_
 exact ⟨[_],X,_,⟨rfl,trivial⟩,⟨rfl,rfl⟩,yJ.out⟩
theorem OwL.cap {α:Type} [ρ:Rep α] {w0:World} {X h:Hp} {xs:List α} {a:Option Addr} {n c:Nat} (H:OwL w0 X xs (.slice a n c) h):xs.length≤c:=by
 obtain ⟨es,⟨h1,⟨ad,hv,hnil,_⟩|⟨bk,cap,spare,hv,rfl,h2,_⟩⟩,h4⟩:=H
 ·subst hnil
  have h5:xs.length=0:=(kU.length h4).symm
  omega
 ·have:=kU.length h4
  simp only [Value.slice.injEq] at hv
  omega
def PutW (w0:World) (X:Hp) (G:Prop) (ex:List Bt) (Fr:List Bt→Prop) (r:Value) (h':Hp):Prop:=∃ (bs:List Bt) (a:Option Addr) (c:Nat) (E:Hp) (e:Int),r=.tuple #[.slice a bs.length c,.int .i64 e]∧RdL w0 E (.slice a bs.length c) bs∧bs.length≤70000∧bs.length≤c∧((G→e=0∧bs=ex)∧Fr bs)∧X+E=h'
def pieceF (m:Msg) (x:Int):List Bt:=if x=11 then be8 (if m.ok=true then 1 else 0) else if x=12 then be8 m.entries.length else if x=13 then dQ m.data else be8 ((numsF m).getD x.toNat 0)
def bodyF (m:Msg):List Bt:=be8 m.kind++be8 m.src++be8 m.dst++(hasF m.kind).flatMap (pieceF m)
def FrmP (m:Msg) (bs:List Bt):Prop:=bs=[]∨∃ t,(be8 m.kind++t).length≤65536∧bs=vC (be8 m.kind++t)++(be8 m.kind++t)∧((12:Int)∉hasF m.kind→be8 m.kind++t=bodyF m)
theorem refFrame_spec (w0:World) (X:Hp) (a:Option Addr) (c:Nat) (p:List Bt) (hv:RdL w0 X (.slice a p.length c) p) (hl:p.length≤1000000000) :
  yO Tryz.prog w0 133 [.slice a p.length c] X (PutW w0 X (p.length≤65536) (vC p++p) fun bs=>bs=[]∨(p.length≤65536∧bs=vC p++p)):=by
 unfold PutW
 refine zN Tryz.func133 M Tryz.ntmps133 Tryz.results133 M fun fr=>?_
 refine zbC ?_
 refine yF M M (kB M M) (fun n1=>?_) (fun n1=>?_)
 ·refine zaB ?_
  exact ⟨[_,_],X,_,⟨rfl,rfl,trivial⟩,⟨[],none,0,0,2,rfl,RdL.nil _ _ _,by decide,by decide,⟨(fun h=>by exfalso; omega),.inl M⟩,yA X⟩,yJ.out⟩
 refine zcW ?_
 refine yG M M (kV (m:=((p.length:Nat):Int)) M (u32_in _ (by omega))) ?_
 skip
 refine zX M M (zQ M M M) (refFour_spec w0 X p.length) ?_
 rintro v1 _ ⟨h1,ho1,rfl⟩
 have hr1:=ho1.rdh
 obtain ⟨a1,c1,rfl⟩:=ho1.shape
 refine zaC ?_
 refine zX M M (zQ M M M) (refOf_spec w0 h1 _ (be4 p.length) hr1 (by simp [be4])) ?_
 rintro _ _ ⟨rfl,rfl⟩
 repeat (refine zK M M M ?_)
 refine zX M M (zQ M M M) (refMore_spec w0 X (.slice a p.length c) p _ (crcF_lt _ _) hv (by omega)) ?_
 rintro _ _ ⟨rfl,rfl⟩
 generalize hs:crcF (crcF 0 (be4 p.length)) p=s
 skip
 refine zX M M (zQ M M M) (refFour_spec w0 X s) ?_
 rintro v2 _ ⟨h2,ho2,rfl⟩
 have hr2:=ho2.rdh
 obtain ⟨a2,c2,rfl⟩:=ho2.shape
 refine zaL ?_
 have hb4:(be4 s).length=4:=rfl
 have hb5:(be4 p.length).length=4:=rfl
 refine yN 4 (fun k g L=>∃ (bs:List Bt) (vo:Value) (h R:Hp),g=[(0,.slice a p.length c),(4,vo),(5,.slice a2 (be4 s).length c2),(6,.int .i64 k)]∧OwL w0 0 bs vo h∧bs=be4 p.length++(be4 s).take k∧L=X+h2+h+fr+R) _
  ⟨_,_,h1,_,rfl,ho1,(List.append_nil _).symm,yJ.out⟩ zsb ?_
 rintro k g L hk ⟨bs,vo,h,R,rfl,ho,hbe,rfl⟩
 have hbl:bs.length≤8:=by rw [hbe,List.length_append,List.length_take]; omega
 refine zaV ?_
 refine yF M M (yS M M) (fun n2=>?_) (fun n2=>?_)
 ·have hx:k<(be4 s).length:=by omega
  obtain ⟨b2,o2,rfl,e,rfl,hat⟩:=hr2.at hx
  repeat (first|refine zF ?_|refine zR ?_|refine zB ?_|refine zE ?_|refine zK M M M ?_|refine zP ?_|refine zJ M ?_|refine kC M M (by omega) M M ?_|refine wA M (by assumption) M M M M ?_|refine vM (vs:=[_]) (cells:=[_]) M M M M M M (fun _=>?_))
  refine kF M M (xR (X:=0) (ns:=[(be4 s)[k]]) (h:=h) M M ho (wQ M) (kU.one M) M M M M M (by simp only [List.length_singleton]; omega)) ?_
  rintro vo' _ ⟨h',ho',rfl⟩
  refine zaI ?_
  exact ⟨by omega,_,zsb,_,vo',h',_,rfl,ho',by rw [hbe,List.append_assoc,List.take_succ_eq_append_getElem hx],yJ.out⟩
 obtain rfl:k=4:=by omega
 have hbe2:bs=vC p:=by rw [hbe,List.take_of_length_le (by omega)]; unfold vC; rw [hs]
 refine zcP ?_
 refine yN p.length (fun k g L=>∃ (bs:List Bt) (vo:Value) (h R:Hp),g=[(0,.slice a p.length c),(4,vo),(7,.int .i64 k)]∧OwL w0 0 bs vo h∧bs=vC p++p.take k∧L=X+h+fr+R) _
  ⟨_,_,h,_,rfl,ho,by rw [hbe2,List.take_zero,List.append_nil],yJ.out⟩ zsb ?_
 clear hbe hbe2 hbl ho
 rintro k g L hk ⟨bs,vo,h,R,rfl,ho,hbe,rfl⟩
 have hbl:bs.length=8+k:=by rw [hbe,List.length_append,List.length_take,headF_length]; omega
 refine zaP ?_
 refine yF M M (yS M M) (fun n2=>?_) (fun n2=>?_)
 ·have hx:k<p.length:=by omega
  obtain ⟨b2,o2,rfl,e,rfl,hat⟩:=hv.at hx
  repeat (first|refine zF ?_|refine zR ?_|refine zB ?_|refine zE ?_|refine zK M M M ?_|refine zP ?_|refine zJ M ?_|refine kC M M (by omega) M M ?_|refine wA M (by assumption) M M M M ?_|refine vM (vs:=[_]) (cells:=[_]) M M M M M M (fun _=>?_))
  refine kF M M (xR (X:=0) (ns:=[p[k]]) (h:=h) M M ho (wQ M) (kU.one M) M M M M M (by simp only [List.length_singleton]; omega)) ?_
  rintro vo' _ ⟨h',ho',rfl⟩
  refine zaI ?_
  exact ⟨hx,_,zsb,_,vo',h',_,rfl,ho',by rw [hbe,List.append_assoc,List.take_succ_eq_append_getElem hx],yJ.out⟩
 ·have hr:=ho.rdh
  obtain ⟨a3,c3,rfl⟩:=ho.shape
  have hcap:=ho.cap
  refine zaK ?_
  exact ⟨[_,_],X+h,_,⟨rfl,rfl,trivial⟩,⟨bs,a3,c3,h,0,rfl,hr,by omega,hcap,⟨(fun _=>⟨rfl,by rw [hbe,List.take_of_length_le (by omega)]⟩),.inr ⟨by omega,by rw [hbe,List.take_of_length_le (by omega)]⟩⟩,rfl⟩,yJ.out⟩
theorem refPut_spec (w0:World) (X:Hp) (m:Msg) (ea da:Option Addr) (ec dc:Nat) (he:RdL w0 X (.slice ea m.entries.length ec) m.entries) (hd:RdL w0 X (.slice da m.data.length dc) m.data) (hel:m.entries.length≤100) (hed:∀ e∈m.entries,e.data.length≤20000) (hdl:m.data.length≤20000) :
  yO Tryz.prog w0 59 [.agg (xI m (.slice ea m.entries.length ec) (.slice da m.data.length dc)).toArray] X (PutW w0 X (GoodP m∧(bodyF m).length≤65536) (vC (bodyF m)++bodyF m) (FrmP m)):=by
 unfold PutW
 have hch:=refCheck12_spec w0 X m ea da ec dc he (by omega) hed hdl
 have hb8:=yX
 refine zN Tryz.func59 M Tryz.ntmps59 Tryz.results59 M fun fr=>?_
 repeat (first|refine zF ?_|refine zB ?_|refine zE ?_|refine zK M M M ?_|refine xJ M (vs:=[_,_,_,_,_,_,_,_,_,_,_,_,_,_,_,_,_]) M M M M M ?_|refine xN M (c:=[_,_,_,_,_,_,_,_,_,_,_,_,_,_,_,_,_]) M M M (fun _=>?_))
 rename_i b1
 refine zX M M (zQ M M M) hch ?_
 rintro _ _ ⟨e0,rfl,hce,rfl⟩
 refine zaC ?_
 refine yF M M (xZ M M) (fun n1=>?_) (fun n1=>?_)
 ·refine zaB ?_
  exact ⟨[_,_],X,_,⟨rfl,rfl,trivial⟩,⟨[],none,0,0,e0,rfl,RdL.nil _ _ _,by decide,by decide,⟨(fun h=>by have:=hce h.1; omega),.inl M⟩,yA X⟩,yJ.out⟩
 refine zbP ?_
 refine yB [2,5,8] [0,1,3,4,6,7,2,5,8,9] (by kernel_rfl) M (by kernel_rfl) (by kernel_rfl) ?_
 refine zbR ?_
 refine xU M M M M (zQ M M M) (uD w0 X (.slice none 0 0) [] m.kind (RdL.nil _ _ _) (by decide)) (xF.all _) ?_
 rintro v1 _ ⟨h1,ho1,rfl⟩
 refine ⟨zka,?_⟩
 skip
 refine xU M M M M (zQ M M M) (uD w0 h1 v1 _ m.src ho1.rdh (by simp [yX])) (xF.all _) ?_
 rintro v2 _ ⟨h2,ho2,rfl⟩
 refine ⟨zka,?_⟩
 skip
 refine xU M M M M (zQ M M M) (uD w0 h2 v2 _ m.dst ho2.rdh (by simp [yX])) (xF.all _) ?_
 rintro v3 _ ⟨h3,ho3,rfl⟩
 refine ⟨zka,?_⟩
 refine zaD ?_
 refine zbT ?_
 refine zX M M (zQ M M M) (has12_spec w0 X m.kind) ?_
 rintro v4 _ ⟨lh,h4,ho4,hl4,hl5,hlq,rfl⟩
 obtain ⟨a4,c4,rfl⟩:=ho4.shape
 repeat (first|refine zF ?_|refine zB ?_|refine zE ?_|refine zK M M M ?_|refine xJ M (vs:=[_,_,_,_,_,_,_,_,_,_,_,_,_,_,_,_,_]) M M M M M ?_)
 refine zX M M (zQ M M M) (numbers12_spec w0 X m _ _ rfl M) ?_
 rintro v5 _ ⟨l,h5,ho5,hlm,rfl⟩
 have hl6:l.length=11:=by rw [hlm]; rfl
 obtain ⟨a5,c5,rfl⟩:=ho5.shape
 refine zaL ?_
 refine yN lh.length (fun i g L=>∃ (bs:List Bt) (vo:Value) (h R:Hp),g=[(1,pB b1),(5,vo),(6,.slice a4 lh.length c4),(7,.slice a5 l.length c5),(8,.int .i64 i)]∧OwL w0 0 bs vo h∧bs.length≤24+i*3000000∧(m.entries=[]∨(12:Int)∉hasF m.kind→bs=be8 m.kind++be8 m.src++be8 m.dst++(lh.take i).flatMap (pieceF m))∧(∃ t,bs=be8 m.kind++t) ∧
  L=pt b1 (.cells (xI m (.slice ea m.entries.length ec) (.slice da m.data.length dc)).toArray 55 (0,0))+(X+h4+h5+h+fr)+R) _
  ⟨_,_,h3,_,rfl,ho3,by simp [yX],(fun _=>by simp),⟨be8 m.src++be8 m.dst,by simp⟩,yJ.out⟩ zsb ?_
 rintro i g L hi ⟨bs,vo,h,R,rfl,ho,hbl,hbe,⟨tl,htl⟩,rfl⟩
 have hr:=ho.rdh
 have hap:∀ y:List Bt,∃ t,bs++y=be8 m.kind++t:=fun y=>⟨tl++y,by rw [htl,List.append_assoc]⟩
 refine zaP ?_
 refine yF M M (yS M M) (fun n2=>?_) (fun n2=>?_)
 rotate_left
 ·obtain ⟨a6,c6,rfl⟩:=ho.shape
  refine zbB ?_
  refine zX M M (zQ M M M) (refFrame_spec w0 h a6 c6 bs hr (by omega)) ?_
  unfold PutW
  rintro _ _ ⟨bs2,a7,c7,E,e,rfl,hrE,hlE,hcE,hxE,rfl⟩
  have hbb:m.entries=[]∨(12:Int)∉hasF m.kind→bs=bodyF m:=by
   intro h0
   rw [hbe h0,List.take_of_length_le (by omega),hlq]; rfl
  refine zaE ?_
  exact ⟨[_,_],X+E,_,⟨rfl,rfl,trivial⟩,⟨bs2,a7,c7,E,e,rfl,hrE,hlE,hcE,⟨(fun hg=>by have h8:=hbb (.inl hg.1.may.ents); rw [← h8]; exact hxE.1 (by rw [h8]; exact hg.2)),hxE.2.imp id fun ⟨q1,q2⟩=>⟨tl,by rw [← htl]; exact q1,by rw [← htl]; exact q2,fun q3=>by rw [← htl]; exact hbb (.inr q3)⟩⟩,rfl⟩,yJ.out⟩
 have hx:i<lh.length:=by omega
 have hxr:=hl5 _ (List.getElem_mem hx)
 have hint:=fun (n:Int)=>uD w0 h vo bs n hr (by omega)
 obtain ⟨b7,o7,rfl,e,rfl,hat⟩:=ho4.rdh.at hx
 have htk:∀ y:List Bt,pieceF m lh[i]=y→(m.entries=[]∨(12:Int)∉hasF m.kind→bs++y=be8 m.kind++be8 m.src++be8 m.dst++(lh.take (i+1)).flatMap (pieceF m)):=by
  intro y hy h0
  rw [hbe h0,List.take_succ_eq_append_getElem hx,List.flatMap_append,List.append_assoc,← hy]; simp
 have hxm:lh[i]∈hasF m.kind:=by rw [← hlq]; exact List.getElem_mem hx
 generalize lh[i]=x at *
 refine zaT ?_
 refine yF M M (yK M M) (fun n3=>?_) (fun n3=>?_)
 ·refine zeF ?_
  cases hok:m.ok
  all_goals
   repeat (first|refine zB ?_|refine zE ?_|refine zK M M M ?_|refine zP ?_|refine zJ M ?_|refine zI M ?_)
   refine zX M M (zQ M M M) (hint _) ?_
   rintro vo' _ ⟨h',ho',rfl⟩
   refine zaI ?_
   exact ⟨hx,_,zsb,_,vo',h',_,rfl,ho',by rw [List.length_append,yX]; omega,htk _ (by unfold pieceF; rw [if_pos n3,hok]; rfl),hap _,yJ.out⟩
 refine zaA ?_
 refine yF M M (yK M M) (fun n4=>?_) (fun n4=>?_)
 ·refine zeG ?_
  refine zX M M (zQ M M M) (hint m.entries.length) ?_
  rintro vo' _ ⟨h',ho',rfl⟩
  refine zaL ?_
  refine yN m.entries.length (fun k g L=>∃ (bs2:List Bt) (vo2:Value) (g2 R:Hp),g=[(1,pB b1),(5,vo2),(6,.slice (some ⟨b7,o7,none⟩) lh.length c4),(7,.slice a5 l.length c5),(8,.int .i64 i),(10,.int .i64 k)]∧OwL w0 0 bs2 vo2 g2∧bs2.length≤32+i*3000000+k*25000∧(m.entries=[]∨(12:Int)∉hasF m.kind→bs2=bs++be8 m.entries.length)∧(∃ t,bs2=be8 m.kind++t) ∧
   L=pt b1 (.cells (xI m (.slice ea m.entries.length ec) (.slice da m.data.length dc)).toArray 55 (0,0))+(X+h4+h5+g2+fr)+R) _
   ⟨_,_,h',_,rfl,ho',by rw [List.length_append,yX]; omega,(fun _=>rfl),hap _,yJ.out⟩ zsb ?_
  rintro k g L hk ⟨bs2,vo2,g2,R2,rfl,hq,hql,hqe,⟨t2,ht2⟩,rfl⟩
  refine zcV ?_
  refine yF M M (yS M M) (fun n5=>?_) (fun n5=>?_)
  ·have hxe:k<m.entries.length:=by omega
   have hdd:=hed _ (List.getElem_mem hxe)
   obtain ⟨b8,o8,rfl,e8,he8,hat8⟩:=he.at hxe
   obtain ⟨a9,c9,rfl,hrd⟩:=id he8
   repeat (first|refine zF ?_|refine zR ?_|refine zB ?_|refine zE ?_|refine zK M M M ?_|refine zY M M M M M ?_|refine yM M M M M M ?_|refine zP ?_|refine zJ M ?_|refine kC M M (by omega) M M ?_|refine vU M (by assumption) M M M M ?_|refine yY M (vs:=[_,_,_]) M M M M (c':=[_,_,_]) M M ?_|refine xK (c:=[_,_,_]) M M M (fun _=>?_))
   rename_i b9
   refine yB [3,6] [0,1,2,4,5,3,6,7] (by kernel_rfl) M (by kernel_rfl) (by kernel_rfl) ?_
   refine zaF ?_
   refine xU M M M M (zQ M M M) (uD w0 g2 vo2 bs2 m.entries[k].term hq.rdh (by omega)) (xF.all _) ?_
   rintro u1 _ ⟨g3,hq3,rfl⟩
   refine ⟨zka,?_⟩
   skip
   refine xU M M M M (zQ M M M) (uD w0 g3 u1 _ m.entries[k].kind hq3.rdh (by rw [List.length_append,yX]; omega)) (xF.all _) ?_
   rintro u2 _ ⟨g4,hq4,rfl⟩
   refine ⟨zka,?_⟩
   refine zaD ?_
   refine zdR ?_
   refine zX M M (zQ M M M) (refPutBlob_spec w0 (X+g4) u2 (.slice a9 m.entries[k].data.length c9) _ m.entries[k].data (hq4.rdh.mono (R:=X) (by ac_rfl)) (hrd.mono M) (by rw [List.length_append,List.length_append,yX,yX]; omega) (by omega)) ?_
   rintro u3 _ ⟨g5,hq5,rfl⟩
   refine zaI ?_
   exact ⟨hxe,_,zsb,_,u3,g5,_,rfl,hq5,by simp only [List.length_append,yX,dQ]; omega,(fun h0=>by rcases h0 with h0|h0; exact absurd hxe (by rw [h0]; exact Nat.not_lt_zero _); exact absurd (n4▸hxm) h0),⟨_,by rw [ht2]; simp only [List.append_assoc]; rfl⟩,yJ.out⟩
  ·refine zcG ?_
   exact ⟨hx,_,zsb,_,vo2,g2,_,rfl,hq,by omega,(fun h0=>by rw [hqe h0]; exact htk _ (by unfold pieceF; rw [if_neg n3,if_pos n4]) h0),⟨t2,ht2⟩,yJ.out⟩
 refine zaA ?_
 refine yF M M (yK M M) (fun n5=>?_) (fun n5=>?_)
 ·refine zdC ?_
  refine zX M M (zQ M M M) (refPutBlob_spec w0 (X+h) vo (.slice da m.data.length dc) bs m.data (hr.mono (R:=X) (by ac_rfl)) (hd.mono M) (by omega) (by omega)) ?_
  rintro vo' _ ⟨h',ho',rfl⟩
  refine zaI ?_
  exact ⟨hx,_,zsb,_,vo',h',_,rfl,ho',by simp only [List.length_append,yX,dQ]; omega,htk _ (by unfold pieceF; rw [if_neg n3,if_neg n4,if_pos n5]),hap _,yJ.out⟩
 ·obtain ⟨n,rfl⟩:∃ n:Nat,x=(n:Int):=⟨x.toNat,by omega⟩
  have hxl:n<l.length:=by omega
  obtain ⟨b8,o8,rfl,e8,rfl,hat8⟩:=ho5.rdh.at hxl
  repeat (first|refine zB ?_|refine zE ?_|refine zK M M M ?_|refine zI M ?_|refine kC M M (by omega) M M ?_|refine wA M (by assumption) M M M M ?_)
  refine zX M M (zQ M M M) (hint _) ?_
  rintro vo' _ ⟨h',ho',rfl⟩
  have hnl:(numsF m).getD n 0=l[n]:=by subst hlm; rw [List.getD_eq_getElem?_getD,List.getElem?_eq_getElem hxl]; rfl
  refine zaI ?_
  exact ⟨hx,_,zsb,_,vo',h',_,rfl,ho',by rw [List.length_append,yX]; omega,htk _ (by unfold pieceF; rw [if_neg n3,if_neg n4,if_neg n5,Int.toNat_natCast,hnl]),hap _,yJ.out⟩
theorem packet_spec (w0:World) (X:Hp) (m:Msg) (ea da:Option Addr) (ec dc:Nat) (he:RdL w0 X (.slice ea m.entries.length ec) m.entries) (hd:RdL w0 X (.slice da m.data.length dc) m.data) (hel:m.entries.length≤100) (hed:∀ e∈m.entries,e.data.length≤20000) (hdl:m.data.length≤20000) :
  yO Tryz.prog w0 27 [.agg (xI m (.slice ea m.entries.length ec) (.slice da m.data.length dc)).toArray] X
   (fun r h'=>∃ (bs:List Bt) (a:Option Addr) (c:Nat) (E:Hp),r=.agg #[.int .i64 m.src,.int .i64 m.dst,.slice a bs.length c]∧RdL w0 E (.slice a bs.length c) bs∧bs.length≤70000∧bs.length≤c∧((GoodP m∧(bodyF m).length≤65536→bs=vC (bodyF m)++bodyF m)∧FrmP m bs)∧X+E=h'):=by
 have hput:=refPut_spec w0 X m ea da ec dc he hd hel hed hdl
 unfold PutW at hput
 refine zN Tryz.func27 M Tryz.ntmps27 Tryz.results27 M fun fr=>?_
 repeat (first|refine zF ?_|refine zB ?_|refine zE ?_|refine xJ M (vs:=[_,_,_,_,_,_,_,_,_,_,_,_,_,_,_,_,_]) M M M M M ?_|refine xN M (c:=[_,_,_,_,_,_,_,_,_,_,_,_,_,_,_,_,_]) M M M (fun _=>?_)|refine xK (c:=[_,_,_]) M M M (fun _=>?_))
 rename_i b1 b2
 refine zX M M (zQ M M M) hput ?_
 rintro _ _ ⟨bs,a,c,E,e,rfl,hr,hl,hc,hx,rfl⟩
 repeat (first|refine zF ?_|refine zB ?_|refine zE ?_|refine zK M M M ?_|refine zY M M M M M ?_|refine yM M M M M M ?_|refine zM ?_|refine yL (vs:=[_,_,_]) (cells:=[_,_,_]) M M M M ?_|refine yY M (vs:=[_,_,_]) M M M M (c':=[_,_,_]) M M ?_)
 exact ⟨[_],X+E,_,⟨⟨_,rfl,zL (vs:=[_,_,_]) M M M⟩,trivial⟩,⟨bs,a,c,E,rfl,hr,hl,hc,⟨(fun h=>(hx.1 h).2),hx.2⟩,rfl⟩,yJ.out⟩
def NowT (w0:World) (X:Hp) (b tb:Nat) (c:Cl) (h:Hp):Prop :=
 ∃ V ps hG hE hD hR hT hK hO,xT w0 X b c V tb ps hG hE hD hR hT hK hO∧uL w0 X tb c.cur hT∧X+(cliC b (clL c V)+(hG+(hE+(hD+(hR+(hT+(hK+hO)))))))=h
theorem tfree_all {c:Cl} (hF:xG c) (hp:wU c=[]):∀ r∈c.reqs,tfree r.heard=true:=by
 intro r hr
 refine (hF.reqs (vS r) (List.mem_map.2 ⟨r,hr,rfl⟩)).2.2 ?_
 by_cases ht:r.tidy=true
 ·exact ht
 ·have:r.heard∈wU c:=List.mem_map.2 ⟨r,List.mem_filter.2 ⟨hr,by simpa using ht⟩,rfl⟩
  rw [hp] at this; cases this
theorem barrier_open {c:Cl} (h:c.opn=true):qS c=jC c 12:=by unfold qS; rw [if_pos h]
theorem barrier_none {c:Cl} (h:c.opn=false) (hd:c.doubts=[]):qS c=jC c 0:=by unfold qS; rw [if_neg (by rw [h]; simp),hd]
theorem barrier_some {c:Cl} (h:c.opn=false) {d:Dbt} {l:List Dbt} (hd:c.doubts=d::l):qS c=vJ c d:=by unfold qS; rw [if_neg (by rw [h]; simp),hd]
theorem zdW {G G' : Prop} (h : G') (f : Zh G'→G:=by intro h; (repeat (first|refine yH M M M M M ?_|refine yD M M M M (zZ M M M) ?_|refine yQ M M M M (yE M) (zG M (zS M)) ?_|refine yD M M M M (pv_len M) ?_)); exact h.o) : G:=f ⟨h⟩
section
variable (w0:World) (X:Hp) (b tb:Nat) (c:Cl) (S:Hp) (n:Nat)
theorem opening2_spec (hS:kT w0 X b tb c S) (hB:Bd n c) (hn:n≤1000000000) (htx:0≤c.txns∧c.txns≤1048575) (hf:∀ r∈c.reqs,tfree r.heard=true) (hw:c.waits=none) (ho:c.opn=false) (hw2:c.own=false) :
  yO Tryz.prog w0 138 [pB b] (X+S) (fun r h'=>∃ tb',r=pB tb'∧NowT w0 X b tb' (kW c) h'):=by
 obtain ⟨⟨vmem,vr0,vsets,vmr,vg,ve,vd,vrq,vop,vow,vw,vco,vou,van⟩,ps,hG,hE,hD,hR,hT,hK,hO,P,rfl⟩:=hS
 obtain ⟨r1,r2,r3,r4,rfl⟩:=P.reqs
 have hid:=hB.id
 have hck:=hB.clock
 have e1:IntKind.i64.wrap (c.id*2 ^ (min (20:Int).toNat IntKind.i64.bits))=c.id*1048576:=by
  rw [show min (20:Int).toNat IntKind.i64.bits=20 from rfl]
  exact qK _ (by omega) (by omega)
 have e2:IntKind.i64.wrap (c.clock*2 ^ (min (3:Int).toNat IntKind.i64.bits))=c.clock*8:=by
  rw [show min (3:Int).toNat IntKind.i64.bits=3 from rfl]
  exact qK _ (by omega) (by omega)
 refine zN Tryz.func138 M Tryz.ntmps138 Tryz.results138 M fun fr=>?_
 repeat (first|refine zF ?_|refine zB ?_|refine zE ?_|refine zK M M M ?_|refine zY M M M M M ?_|refine yM M M M M M ?_|refine yU M M (by omega) (by omega) M M ?_|refine xD M M M (c':=(_::_::_::_::_::_::_::_::_::_::_::_::_::_::_::_::_::_::_::_::_::_::_::_::_::_::_::_::_::_::_::_::_::_::_::_::_::_::[])) M M M M ?_)
 refine yB [21] [0,1,2,3,4,5,6,7,8,9,10,11,12,13,14,15,16,17,18,19,20,21,22] (by kernel_rfl) M (by kernel_rfl) (by kernel_rfl) ?_
 refine zaF ?_
 refine yD M M M M (pv_shl M M (by omega)) ?_
 rw [e1]
 repeat (first|refine yH M M M M M ?_|refine yD M M M M (zZ M M M) ?_|refine yQ M M M M (yE M) (zG M (zS M)) ?_|refine yD M M M M (dE M M (by omega) (by omega)) ?_)
 refine yD M M M M (pv_shl M M (by omega)) ?_
 rw [e2]
 repeat (first|refine yH M M M M M ?_|refine yD M M M M (zZ M M M) ?_|refine yQ M M M M (yE M) (zG M (zS M)) ?_|refine yD M M M M (dE M M (by omega) (by omega)) ?_|refine yD M M M M (wJ (vs:=[_,_]) (cells:=[_,_,_,_,_,_,_,_]) M M) ?_)
 refine xS M M M M (ev_box M) (xF.all _) ?_
 rintro _ _ ⟨bt,rfl,hL⟩
 have hL':_=txnC bt (.int .i64 (c.id*1048576+(c.txns+1))::.int .i64 (c.clock*8+c.id)::.slice none 0 0::.slice none 0 0::.slice none 0 0::.slice none 0 0::.int .i64 0::.int .i64 0::[])+_:=hL
 subst hL'
 clear hL
 refine ⟨zka,?_⟩
 refine zaD ?_
 repeat (refine zM ?_)
 have hT2:uL w0 X bt (kW c).cur (txnC bt (.int .i64 (c.id*1048576+(c.txns+1))::.int .i64 (c.clock*8+c.id)::.slice none 0 0::.slice none 0 0::.slice none 0 0::.slice none 0 0::.int .i64 0::.int .i64 0::[])) :=
  ⟨.slice none 0 0,.slice none 0 0,.slice none 0 0,none,0,0,0,0,by rw [yA,yA,yA]; rfl,OwL.nil _ _,OwL.nil _ _,OwL.nil _ _,RdL.nil _ _ _⟩
 have hww:WaitAt w0 X b bt c.waits vw:=by have:=P.waits; rw [hw] at this ⊢; exact this
 have hoo:vop=wK c.opn bt:=by have:=P.opn; rw [ho] at this ⊢; exact this
 have hoo2:vow=wK c.own bt:=by have:=P.own; rw [hw2] at this ⊢; exact this
 have hP:xT w0 X b (kW c) ⟨vmem,vr0,vsets,vmr,vg,ve,vd,vrq,vop,vow,vw,vco,vou,van⟩ bt ps hG hE hD (r1+r2) _ hK hO :=
  xT.mk P.mem P.rngs0 P.sets P.mr P.guess P.ended P.dbts (ReqsAt.intro r3 (r4.free hf)) hoo hoo2 (.inl hT2) hww P.coord P.out P.ansd
 exact ret_cli [_] ⟨rfl,trivial⟩ hP (by exact rfl) ⟨bt,rfl,_,ps,hG,hE,hD,_,_,hK,hO,hP,hT2,rfl⟩
variable (x:Cal) (dv:Value)
theorem beginning_spec (hS:kT w0 X b tb c S) (hZ:Sz n c) (hn:n+100≤100000000) (hF:xG c) (hB:Base c) (ho:c.own=false) :
  yO Tryz.prog w0 70 [pB b,.agg (xW x dv).toArray] (X+S) (fun r h'=>∃ tb',kP w0 X b tb' (beginF c) h'):=by
 have htx:=hZ.num.2.2.2.1
 have hop2:=fun h=>opening2_spec w0 X b tb c S n hS hZ.bd (by omega) htx (tfree_all hF hB.2.2.1) hB.2.2.2.1 h ho
 have hS9:=id hS
 obtain ⟨⟨vmem,vr0,vsets,vmr,vg,ve,vd,vrq,vop,vow,vw,vco,vou,van⟩,ps,hG,hE,hD,hR,hT,hK,hO,P,rfl⟩:=hS
 have hvp:vop=wK c.opn tb:=P.opn
 unfold beginF
 refine zN Tryz.func70 M Tryz.ntmps70 Tryz.results70 M fun fr=>?_
 cases hop:c.opn
 ·rw [hop] at hvp
  simp only [wK,cond_false] at hvp
  subst hvp
  rw [if_neg (by simp)]
  repeat (first|refine zF ?_|refine zR ?_|refine zB ?_|refine zE ?_|refine zK M M M ?_|refine zY M M M M M ?_|refine yM M M M M M ?_|refine xN M (c:=[_,_,_,_,_,_,_,_,_,_,_,_,_]) M M M (fun _=>?_))
  refine yG M M (kY M M) ?_
  refine zbH ?_
  refine yF M M (kQ M M) (fun h=>?_) (fun h=>?_)
  ·rw [if_pos (by omega)]
   refine zaU ?_
   refine zX M M (zQ M M M) (xL w0 X b tb c _ hS9 17) ?_
   rintro _ _ hA
   repeat (refine zE ?_)
   exact ⟨[],_,_,trivial,⟨tb,hA.after⟩,yJ.out⟩
  ·rw [if_neg (by omega)]
   refine zaA ?_
   refine zX M M (zQ M M M) (hop2 hop) ?_
   rintro _ _ ⟨tb',rfl,⟨um,ur0,us,umr,ug,ue,ud,urq,uop,uow,uw,uco,uou,uan⟩,qs,jG,jE,jD,jR,jT,jK,jO,P2,hT2,rfl⟩
   generalize hc1:kW c=c1 at *
   obtain ⟨vr,va,vw',ap,cp,hr,ha,hw,rfl,k1,k2,k3,k4⟩:=id hT2
   repeat (first|refine zB ?_|refine zE ?_|refine zK M M M ?_|refine zY M M M M M ?_|refine yM M M M M M ?_|refine xD M M M (c':=(_::_::_::_::_::_::_::_::_::_::_::_::_::_::_::_::_::_::_::_::_::_::_::_::_::_::_::_::_::_::_::_::_::_::_::_::_::_::[])) M M M M ?_|refine yL (vs:=[_]) (cells:=[_,_,_]) M M M M ?_)
   have hP3:xT w0 X b { c1 with opn:=true } ⟨um,ur0,us,umr,ug,ue,ud,urq,pB tb',uow,uw,uco,uou,uan⟩ tb' qs jG jE jD jR _ jK jO :=
    xT.mk P2.mem P2.rngs0 P2.sets P2.mr P2.guess P2.ended P2.dbts P2.reqs M P2.own (.inl hT2) P2.waits P2.coord P2.out P2.ansd
   refine zX M M (zQ M M M) (qL w0 X b tb' { c1 with opn:=true } _ ⟨_,qs,jG,jE,jD,jR,_,jK,jO,hP3,rfl⟩ ⟨0,c1.cur.id,[]⟩ none 0 (RdL.nil _ _ _)) ?_
   rintro _ _ hA
   repeat (refine zE ?_)
   exact ⟨[],_,_,trivial,⟨tb',hA.after⟩,yJ.out⟩
 ·rw [hop] at hvp
  simp only [wK,cond_true] at hvp
  subst hvp
  rw [if_pos M]
  repeat (first|refine zF ?_|refine zR ?_|refine zB ?_|refine zE ?_|refine zK M M M ?_|refine zY M M M M M ?_|refine yM M M M M M ?_|refine xN M (c:=[_,_,_,_,_,_,_,_,_,_,_,_,_]) M M M (fun _=>?_))
  refine yG M M (kY M M) ?_
  refine zaU ?_
  refine zX M M (zQ M M M) (xL w0 X b tb c _ hS9 12) ?_
  rintro _ _ hA
  repeat (refine zE ?_)
  exact ⟨[],_,_,trivial,⟨tb,hA.after⟩,yJ.out⟩
theorem aborting_spec (hS:kT w0 X b tb c S) (hZ:Sz n c) (hn:n+100≤100000000) (hF:xG c) :
  yO Tryz.prog w0 74 [pB b,.agg (xW x dv).toArray] (X+S) (fun r h'=>kP w0 X b tb (abortF c) h'):=by
 have hS9:=id hS
 obtain ⟨⟨vmem,vr0,vsets,vmr,vg,ve,vd,vrq,vop,vow,vw,vco,vou,van⟩,ps,hG,hE,hD,hR,hT,hK,hO,P,rfl⟩:=hS
 have hvp:vop=wK c.opn tb:=P.opn
 unfold abortF
 refine zN Tryz.func74 M Tryz.ntmps74 Tryz.results74 M fun fr=>?_
 cases hop:c.opn
 ·rw [hop] at hvp
  simp only [wK,cond_false] at hvp
  subst hvp
  rw [if_pos M]
  repeat (first|refine zF ?_|refine zB ?_|refine zE ?_|refine zK M M M ?_|refine zY M M M M M ?_|refine yM M M M M M ?_|refine xN M (c:=[_,_,_,_,_,_,_,_,_,_,_,_,_]) M M M (fun _=>?_))
  refine yG M M (kZ M M) ?_
  refine zaY ?_
  refine zX M M (zQ M M M) (xL w0 X b tb c _ hS9 22) ?_
  rintro _ _ hA
  refine zbI ?_
  exact ⟨[],_,_,trivial,hA.after,yJ.out⟩
 ·rw [hop] at hvp
  simp only [wK,cond_true] at hvp
  subst hvp
  rw [if_neg (by simp)]
  have hT2:uL w0 X tb c.cur hT:=P.txn.elim id fun h=>by rw [h.1] at hop; cases hop
  have hca:=hZ.cur.asked
  have hcp:=hZ.cur.parts
  have hgs:=bJ w0 X tb c.cur hT hT2 (by omega)
  have hgl:=vF hF
  obtain ⟨vr,va,vw',ap,cp,hr,ha,hw,rfl,k1,k2,k3,k4⟩:=id hT2
  repeat (first|refine zF ?_|refine zB ?_|refine zE ?_|refine zK M M M ?_|refine zY M M M M M ?_|refine yM M M M M M ?_|refine xN M (c:=[_,_,_,_,_,_,_,_,_,_,_,_,_]) M M M (fun _=>?_))
  refine yG M M (kZ M M) ?_
  refine zbP ?_
  refine yB [12,13] [0,1,2,3,4,5,6,7,8,9,10,11,12,13] (by kernel_rfl) M (by kernel_rfl) (by kernel_rfl) ?_
  refine zaF ?_
  refine xU M M M M (zQ M M M) hgs (xF.all _) ?_
  rintro _ _ ⟨k5,o5,rfl⟩
  obtain ⟨a5,c5,rfl⟩:=o5.shape
  refine ⟨zka,?_⟩
  skip
  have htd:=uR w0 (X+k5) b tb c _ n (hS9.mono M) hZ.bd c.cur.id 2 (xH c.cur) a5 c5 (o5.rd (X:=0) (R:=X)) (by omega) hF.groups hZ.cur.nums.1 i64_2
  refine xU M M M M (zQ M M M) htd (.drop (by kernel_rfl) (.drop (by kernel_rfl) (.drop (by kernel_rfl) .nil))) ?_
  rintro _ _ ⟨S2,h2,rfl⟩
  refine ⟨trivial,?_⟩
  generalize jZ c c.cur.id (xH c.cur) 2=c2 at *
  obtain ⟨⟨um,ur0,us,umr,ug,ue,ud,urq,uop,uow,uw,uco,uou,uan⟩,qs,jG,jE,jD,jR,jT,jK,jO,P2,rfl⟩:=h2
  repeat (refine yI ?_)
  refine zbV ?_
  have hP3:xT w0 (X+k5) b { c2 with opn:=false } ⟨um,ur0,us,umr,ug,ue,ud,urq,.pointer none,uow,uw,uco,uou,uan⟩ tb qs jG jE jD jR jT jK jO :=
   xT.mk P2.mem P2.rngs0 P2.sets P2.mr P2.guess P2.ended P2.dbts P2.reqs M P2.own (P2.txn.imp id fun h=>⟨rfl,h.2⟩) P2.waits P2.coord P2.out P2.ansd
  refine zX M M (zQ M M M) (xL w0 (X+k5) b tb { c2 with opn:=false } _ ⟨_,qs,jG,jE,jD,jR,jT,jK,jO,hP3,rfl⟩ 0) ?_
  rintro _ _ hA
  repeat (refine zE ?_)
  exact ⟨[],_,_,trivial,hA.after.trans,yJ.out⟩
theorem barring_spec (hS:kT w0 X b tb c S) (hZ:Sz n c) (hn:n+100≤100000000) (hF:xG c) :
  yO Tryz.prog w0 75 [pB b,.agg (xW x dv).toArray] (X+S) (fun r h'=>kP w0 X b tb (qS c) h'):=by
 have hS9:=id hS
 obtain ⟨⟨vmem,vr0,vsets,vmr,vg,ve,vd,vrq,vop,vow,vw,vco,vou,van⟩,ps,hG,hE,hD,hR,hT,hK,hO,P,rfl⟩:=hS
 have hvp:vop=wK c.opn tb:=P.opn
 have hOd:OwL w0 X c.doubts vd hD:=P.dbts
 obtain ⟨ad,cd,rfl⟩:=hOd.shape
 refine zN Tryz.func75 M Tryz.ntmps75 Tryz.results75 M fun fr=>?_
 cases hop:c.opn
 ·rw [hop] at hvp
  simp only [wK,cond_false] at hvp
  subst hvp
  repeat (first|refine zF ?_|refine zR ?_|refine zB ?_|refine zE ?_|refine zK M M M ?_|refine zY M M M M M ?_|refine yM M M M M M ?_|refine xN M (c:=[_,_,_,_,_,_,_,_,_,_,_,_,_]) M M M (fun _=>?_))
  refine yG M M (kY M M) ?_
  refine zcB ?_
  refine yF M M (yK M M) (fun h2=>?_) (fun h2=>?_)
  ·have e0:c.doubts=[]:=List.eq_nil_of_length_eq_zero (by omega)
   rw [barrier_none hop e0]
   refine zaU ?_
   refine zX M M (zQ M M M) (xL w0 X b tb c _ hS9 0) ?_
   rintro _ _ hA
   repeat (refine zE ?_)
   exact ⟨[],_,_,trivial,hA.after,yJ.out⟩
  ·have hx:0<c.doubts.length:=by omega
   have hd:c.doubts=c.doubts[0]::c.doubts.drop 1:=by rw [← List.drop_eq_getElem_cons hx,List.drop_zero]
   rw [barrier_some hop hd]
   obtain ⟨bq2,oq2,rfl,e,hre2,hat2⟩:=OwL.at hOd hx
   obtain ⟨f1,g1,f2,g2,rfl,q1,q2⟩:=id hre2
   have hn2:=(hF.doubts _ (List.getElem_mem hx)).2
   clear hd
   generalize c.doubts[0]=d2 at *
   refine zdT ?_
   refine zX M M (zQ M M M) (resolving_spec w0 X b tb c _ n hS9 hZ (by omega) d2 hn2 f1 f2 g1 g2 q1) ?_
   rintro _ _ hA
   repeat (refine zE ?_)
   exact ⟨[],_,_,trivial,hA,yJ.out⟩
 ·rw [hop] at hvp
  simp only [wK,cond_true] at hvp
  subst hvp
  rw [barrier_open hop]
  repeat (first|refine zF ?_|refine zR ?_|refine zB ?_|refine zE ?_|refine zK M M M ?_|refine zY M M M M M ?_|refine yM M M M M M ?_|refine xN M (c:=[_,_,_,_,_,_,_,_,_,_,_,_,_]) M M M (fun _=>?_))
  refine yG M M (kY M M) ?_
  refine zaU ?_
  refine zX M M (zQ M M M) (xL w0 X b tb c _ hS9 12) ?_
  rintro _ _ hA
  repeat (refine zE ?_)
  exact ⟨[],_,_,trivial,hA.after,yJ.out⟩
theorem membering_spec (hS:kT w0 X b tb c S) (hZ:Sz n c) (hn:n+100≤100000000) (hF:xG c) :
  yO Tryz.prog w0 80 [pB b,.agg (xW x dv).toArray] (X+S) (fun r h'=>kP w0 X b tb (memberF c x) h'):=by
 have hS9:=id hS
 have hnm:=hF.nmem
 obtain ⟨⟨vmem,vr0,vsets,vmr,vg,ve,vd,vrq,vop,vow,vw,vco,vou,van⟩,ps,hG,hE,hD,hR,hT,hK,hO,P,rfl⟩:=hS
 obtain ⟨amm,cmm,hvm⟩:=P.mem
 simp only at hvm
 subst hvm
 unfold memberF
 refine zN Tryz.func80 M Tryz.ntmps80 Tryz.results80 M fun fr=>?_
 have bad:∀ {e:Int} {h:Hp},Now w0 X b tb (jC c e) h→kP w0 X b tb (jC c e) h:=fun h=>h.after
 repeat (first|refine zF ?_|refine zR ?_|refine zB ?_|refine zE ?_|refine xN M (c:=[_,_,_,_,_,_,_,_,_,_,_,_,_]) M M M (fun _=>?_))
 rename_i b3
 refine jP (fun g' L'=>Sub g' [(0,pB b),(3,pB b3),(7,.bool (decide (x.group<0∨(c.nmem:Int)≤x.group)))]∧L'=pt b3 (.cells (xW x dv).toArray 41 (0,0))+(X+(cliC b (clL c ⟨.slice amm c.nmem cmm,vr0,vsets,vmr,vg,ve,vd,vrq,vop,vow,vw,vco,vou,van⟩)+(hG+(hE+(hD+(hR+(hT+(hK+hO))))))))+fr) ?_ ?_
 ·refine yB [] [0,1,2,3,4,5,6,7,8,9,10,11,12,13,14] (by kernel_rfl) M (by kernel_rfl) (by kernel_rfl) ?_
  refine zbR ?_
  refine jY M M M M (yS M M) (fun n1=>?_) (fun n1=>?_)
  ·rw [decide_eq_true (.inl n1)]
   refine zaR ?_
   skip
   exact ⟨zsb,yJ.out⟩
  ·refine zdW ?_
   refine jY M M M M (kQ M M) (fun n2=>?_) (fun n2=>?_)
   ·rw [decide_eq_true (.inr (by omega))]
    refine zaD ?_
    skip
    exact ⟨zsb,yJ.out⟩
   ·rw [decide_eq_false (by omega)]
    refine zaD ?_
    skip
    exact ⟨zsb,yJ.out⟩
 rintro g' _ ⟨hsub,rfl⟩
 refine jV hsub ?_
 clear hsub g'
 refine uU M (fun h1=>?_) (fun h1=>?_)
 ·rw [if_pos h1]
  refine zbQ ?_
  refine zX M M (zQ M M M) (xL w0 X b tb c _ hS9 27) ?_
  rintro _ _ hA
  repeat (refine zE ?_)
  exact ⟨[],_,_,trivial,hA.after,yJ.out⟩
 rw [if_neg h1]
 have hgr:grp x.group:=by unfold grp; omega
 repeat (refine zF ?_)
 refine jP (fun g' L'=>Sub g' [(0,pB b),(3,pB b3),(24,.bool (decide (x.node<1∨c.nodes<x.node)))]∧L'=pt b3 (.cells (xW x dv).toArray 41 (0,0))+(X+(cliC b (clL c ⟨.slice amm c.nmem cmm,vr0,vsets,vmr,vg,ve,vd,vrq,vop,vow,vw,vco,vou,van⟩)+(hG+(hE+(hD+(hR+(hT+(hK+hO))))))))+fr) ?_ ?_
 ·refine yB [] [0,1,2,3,4,5,6,7,8,9,10,11,12,13] (by kernel_rfl) M (by kernel_rfl) (by kernel_rfl) ?_
  refine zbR ?_
  refine jY M M M M (yS M M) (fun n1=>?_) (fun n1=>?_)
  ·rw [decide_eq_true (.inl n1)]
   refine zaR ?_
   skip
   exact ⟨zsb,rfl⟩
  ·refine zaF ?_
   refine jY M M M M (kB M M) (fun n2=>?_) (fun n2=>?_)
   ·rw [decide_eq_true (.inr (by omega))]
    refine zaD ?_
    skip
    exact ⟨zsb,rfl⟩
   ·rw [decide_eq_false (by omega)]
    refine zaD ?_
    skip
    exact ⟨zsb,rfl⟩
 rintro g' _ ⟨hsub,rfl⟩
 refine jV hsub ?_
 clear hsub g'
 refine uU M (fun h2=>?_) (fun h2=>?_)
 ·rw [if_pos h2]
  refine zbQ ?_
  refine zX M M (zQ M M M) (xL w0 X b tb c _ hS9 28) ?_
  rintro _ _ hA
  repeat (refine zE ?_)
  exact ⟨[],_,_,trivial,hA.after,yJ.out⟩
 rw [if_neg h2]
 refine zbT ?_
 refine yF M M (xZ M M) (fun n1=>?_) (fun n1=>?_)
 ·refine zaN ?_
  refine yF M M (xZ M M) (fun n2=>?_) (fun n2=>?_)
  ·rw [if_pos ⟨n1,n2⟩]
   refine zaU ?_
   refine zX M M (zQ M M M) (xL w0 X b tb c _ hS9 3) ?_
   rintro _ _ hA
   repeat (refine zE ?_)
   exact ⟨[],_,_,trivial,hA.after,yJ.out⟩
  ·rw [if_neg (fun h=>n2 h.2)]
   repeat (first|refine zB ?_|refine zE ?_|refine zK M M M ?_|refine zI M ?_|refine xJ M (vs:=[_,_,_,_,_,_,_,_,_,_,_,_,_]) M M M M M ?_)
   refine zX M M (zQ M M M) (changing_spec w0 X b tb c _ n hS9 hZ.bd (by omega) x dv 0 (by omega) hgr) ?_
   rintro _ _ hA
   repeat (refine zE ?_)
   exact ⟨[],_,_,trivial,hA,yJ.out⟩
 ·rw [if_neg (fun h=>n1 h.1)]
  repeat (first|refine zB ?_|refine zE ?_|refine zK M M M ?_|refine xE M M ?_|refine zI M ?_|refine xJ M (vs:=[_,_,_,_,_,_,_,_,_,_,_,_,_]) M M M M M ?_)
  refine zX M M (zQ M M M) (changing_spec w0 X b tb c _ n hS9 hZ.bd (by omega) x dv 0 (by omega) hgr) ?_
  rintro _ _ hA
  repeat (refine zE ?_)
  exact ⟨[],_,_,trivial,hA,yJ.out⟩
end
theorem zbZ {G G' : Prop} (h : G') (f : Zh G'→G:=by intro h; (repeat (first|refine zB ?_|refine zE ?_|refine zK M M M ?_|refine yM M M M M M ?_|refine zJ M ?_)); exact h.o) : G:=f ⟨h⟩
section
variable (w0:World) (X:Hp) (b tb:Nat) (c:Cl) (S:Hp) (n:Nat)
variable (x:Cal) (dv:Value)
theorem committing_spec (hS:kT w0 X b tb c S) (hZ:Sz n c) (hn:n+100≤100000000) (hF:xG c) :
  yO Tryz.prog w0 73 [pB b,.agg (xW x dv).toArray] (X+S) (fun r h'=>kP w0 X b tb (commitF c) h'):=by
 have hS9:=id hS
 obtain ⟨⟨vmem,vr0,vsets,vmr,vg,ve,vd,vrq,vop,vow,vw,vco,vou,van⟩,ps,hG,hE,hD,hR,hT,hK,hO,P,rfl⟩:=hS
 have hvp:vop=wK c.opn tb:=P.opn
 unfold commitF
 refine zN Tryz.func73 M Tryz.ntmps73 Tryz.results73 M fun fr=>?_
 cases hop:c.opn
 ·rw [hop] at hvp
  simp only [wK,cond_false] at hvp
  subst hvp
  rw [if_pos M]
  repeat (first|refine zF ?_|refine zR ?_|refine zB ?_|refine zE ?_|refine zK M M M ?_|refine zY M M M M M ?_|refine yM M M M M M ?_|refine xD M M M (c':=[_]) M M M M ?_|refine xN M (c:=[_]) M M M (fun _=>?_)|refine xN M (c:=[_,_,_,_,_,_,_,_,_,_,_,_,_]) M M M (fun _=>?_)|refine xK (c:=[_]) M M M (fun _=>?_))
  refine yG M M (kZ M M) ?_
  refine zbZ ?_
  refine zX M M (zQ M M M) (xL w0 X b tb c _ hS9 22) ?_
  rintro _ _ hA
  repeat (refine zE ?_)
  exact ⟨[],_,_,trivial,hA.after,yJ.out⟩
 ·rw [hop] at hvp
  simp only [wK,cond_true] at hvp
  subst hvp
  rw [if_neg (by simp)]
  have hT2:uL w0 X tb c.cur hT:=P.txn.elim id fun h=>by rw [h.1] at hop; cases hop
  obtain ⟨vr,va,vw',ap,cp,hr,ha,hw,rfl,k1,k2,k3,k4⟩:=id hT2
  obtain ⟨ar,cr,rfl⟩:=k1.shape
  obtain ⟨aw,cw,rfl⟩:=k3.shape
  have hrl:=hZ.cur.reads.1
  have hwl:=hZ.cur.writes.1
  repeat (first|refine zF ?_|refine zR ?_|refine zB ?_|refine zE ?_|refine zK M M M ?_|refine zY M M M M M ?_|refine yM M M M M M ?_|refine xD M M M (c':=[_]) M M M M ?_|refine xN M (c:=[_]) M M M (fun _=>?_)|refine xN M (c:=[_,_,_,_,_,_,_,_,_,_,_,_,_]) M M M (fun _=>?_)|refine xK (c:=[_]) M M M (fun _=>?_))
  rename_i b2 b3 b4
  refine yG M M (kZ M M) ?_
  refine zcC ?_
  refine yB [] [0,1,2,3,4,5,6,7,8,9,10,11,12] (by kernel_rfl) M (by kernel_rfl) (by kernel_rfl) ?_
  refine zfC ?_
  refine jY M M M M (yK M M) (fun h2=>?_) (fun h2=>?_)
  ·rw [if_pos (by omega)]
   refine zaD ?_
   repeat (first|refine zF ?_|refine zB ?_|refine zE ?_|refine zK M M M ?_|refine zY M M M M M ?_|refine yM M M M M M ?_|refine zJ M ?_|refine xD M M M (c':=(_::_::_::_::_::_::_::_::_::_::_::_::_::_::_::_::_::_::_::_::_::_::_::_::_::_::_::_::_::_::_::_::_::_::_::_::_::_::[])) M M M M ?_)
   have hP3:xT w0 X b { c with opn:=false } ⟨vmem,vr0,vsets,vmr,vg,ve,vd,vrq,.pointer none,vow,vw,vco,vou,van⟩ tb ps hG hE hD hR _ hK hO :=
    xT.mk P.mem P.rngs0 P.sets P.mr P.guess P.ended P.dbts P.reqs M P.own (.inl hT2) P.waits P.coord P.out P.ansd
   refine zX M M (zQ M M M) (xL w0 X b tb { c with opn:=false } _ ⟨_,ps,hG,hE,hD,hR,_,hK,hO,hP3,rfl⟩ 0) ?_
   rintro _ _ hA
   repeat (refine zE ?_)
   exact ⟨[],_,_,trivial,hA.after,yJ.out⟩
  ·rw [if_neg (by omega)]
   refine zaD ?_
   repeat (first|refine zB ?_|refine yM M M M M M ?_|refine zI M ?_|refine uI M M M ?_)
   have hA2:At w0 (X+(pt b2 (.cells [pB b].toArray 24 (0,0))+pt b4 (.cells [pB tb].toArray 92 (0,0)))) b2 0 [pB b]:=jI
   have hA4:At w0 (X+(pt b2 (.cells [pB b].toArray 24 (0,0))+pt b4 (.cells [pB tb].toArray 92 (0,0)))) b4 0 [pB tb]:=jI
   have hS3:=hS9.mono (L:=X+(pt b2 (.cells [pB b].toArray 24 (0,0))+pt b4 (.cells [pB tb].toArray 92 (0,0)))) M
   refine zX M M (zQ M M M) (mapping_spec w0 _ b tb c _ hS3 .prep 153 [pB b2,pB b4] ⟨b2,b4,rfl,hA2,hA4⟩ (fun _=>commitRun_spec w0 _ b tb c _ n hS3 hZ hn hF hop b2 b4 hA2 hA4)) ?_
   rintro _ _ hA
   repeat (refine zE ?_)
   exact ⟨[],_,_,trivial,hA.trans,yJ.out⟩
theorem readingSnap_spec (hS:kT w0 X b tb c S) (hZ:Sz n c) (hn:n+100≤100000000) (hF:xG c) (hx:qH x) :
  yO Tryz.prog w0 77 [pB b,.agg (xW x dv).toArray] (X+S) (fun r h'=>kP w0 X b tb (readSnapF c x) h'):=by
 have hml:=hZ.m.len
 have hS9:=id hS
 have hck:=check21_spec w0 X (keptOp x ⟨0,0,0,0⟩) _ (rd_bare w0 X _ rfl M M M) (by exact ⟨xB,xB,xB,xB,xB,xB,xB,hx.block,hx.snap,xB,xB,xB⟩) (by simp [keptOp])
 obtain ⟨⟨vmem,vr0,vsets,vmr,vg,ve,vd,vrq,vop,vow,vw,vco,vou,van⟩,ps,hG,hE,hD,hR,hT,hK,hO,P,rfl⟩:=hS
 unfold readSnapF
 refine zN Tryz.func77 M Tryz.ntmps77 Tryz.results77 M fun fr=>?_
 repeat (first|refine zF ?_|refine zB ?_|refine zE ?_|refine zY M M M M M ?_|refine yM M M M M M ?_|refine xN M (c:=[_]) M M M (fun _=>?_)|refine xN M (c:=[_,_,_,_,_,_,_,_,_,_,_,_,_]) M M M (fun _=>?_))
 rename_i b2 b3
 refine zX M M (zQ M M M) (inDisk_spec w0 x.block) ?_
 rintro _ _ ⟨rfl,rfl⟩
 by_cases hd:0≤x.block∧x.block<64
 rotate_left
 ·rw [if_pos hd,decide_eq_false hd]
  repeat (first|refine zF ?_|refine zB ?_|refine zE ?_|refine zK M M M ?_|refine yM M M M M M ?_|refine zJ M ?_)
  refine zX M M (zQ M M M) (xL w0 X b tb c _ hS9 20) ?_
  rintro _ _ hA
  refine zbI ?_
  exact ⟨[],_,_,trivial,hA.after,yJ.out⟩
 rw [if_neg (fun h=>h hd),decide_eq_true hd]
 refine zeW ?_
 refine zX M M (zQ M M M) hck ?_
 rintro _ _ ⟨rfl,rfl⟩
 generalize jF (keptOp x ⟨0,0,0,0⟩)=ck at *
 refine zaC ?_
 refine yF M M (xZ M M) (fun h2=>?_) (fun h2=>?_)
 ·rw [if_pos h2]
  repeat (first|refine zF ?_|refine zB ?_|refine zE ?_|refine zK M M M ?_|refine yM M M M M M ?_|refine zJ M ?_)
  refine zX M M (zQ M M M) (xL w0 X b tb c _ hS9 ck) ?_
  rintro _ _ hA
  refine zbI ?_
  exact ⟨[],_,_,trivial,hA.after,yJ.out⟩
 ·rw [if_neg h2]
  repeat (first|refine zB ?_|refine zE ?_|refine yM M M M M M ?_|refine zP ?_|refine zI M ?_|refine uI M M M ?_)
  have hA2:At w0 (X+(pt b2 (.cells [pB b].toArray 24 (0,0))+pt b3 (.cells (xW x dv).toArray 41 (0,0)))) b2 0 [pB b]:=jI
  have hA4:At w0 (X+(pt b2 (.cells [pB b].toArray 24 (0,0))+pt b3 (.cells (xW x dv).toArray 41 (0,0)))) b3 0 (xW x dv):=jI
  have hS3:=hS9.mono (L:=X+(pt b2 (.cells [pB b].toArray 24 (0,0))+pt b3 (.cells (xW x dv).toArray 41 (0,0)))) M
  refine zX M M (zQ M M M) (mapping_spec w0 _ b tb c _ hS3 (.kept x) 156 [pB b2,pB b3] ⟨b2,b3,dv,rfl,hA2,hA4⟩ (fun _=>keptRun_spec w0 _ b tb c _ n hS3 hZ.bd (by omega) hF (by omega) x dv b2 b3 hA2 hA4)) ?_
  rintro _ _ hA
  repeat (refine zE ?_)
  exact ⟨[],_,_,trivial,hA.trans,yJ.out⟩
theorem snapping_spec (hS:kT w0 X b tb c S) (hZ:Sz n c) (hn:n+100≤100000000) (hF:xG c) (hB:Base c) (ho:c.own=false) :
  yO Tryz.prog w0 76 [pB b,.agg (xW x dv).toArray] (X+S) (fun r h'=>∃ tb',kP w0 X b tb' (snapshotF c x) h'):=by
 have htx:=hZ.num.2.2.2.1
 have hop2:=fun (Y:Hp) (hS':kT w0 Y b tb c S) h=>opening2_spec w0 Y b tb c S n hS' hZ.bd (by omega) htx (tfree_all hF hB.2.2.1) hB.2.2.2.1 h ho
 have hS9:=id hS
 have hsl:=hZ.sets.1
 obtain ⟨⟨vmem,vr0,vsets,vmr,vg,ve,vd,vrq,vop,vow,vw,vco,vou,van⟩,ps,hG,hE,hD,hR,hT,hK,hO,P,rfl⟩:=hS
 have hvp:vop=wK c.opn tb:=P.opn
 obtain ⟨asx,cs,hvs,hrs⟩:=P.sets
 simp only at hvs
 subst hvs
 unfold snapshotF
 refine zN Tryz.func76 M Tryz.ntmps76 Tryz.results76 M fun fr=>?_
 cases hop:c.opn
 rotate_left
 ·rw [hop] at hvp
  simp only [wK,cond_true] at hvp
  subst hvp
  rw [if_pos M]
  repeat (first|refine zF ?_|refine zR ?_|refine zB ?_|refine zE ?_|refine zK M M M ?_|refine zY M M M M M ?_|refine yM M M M M M ?_|refine xN M (c:=[_]) M M M (fun _=>?_)|refine xN M (c:=[_,_,_,_,_,_,_,_,_,_,_,_,_]) M M M (fun _=>?_))
  refine yG M M (kY M M) ?_
  refine zbZ ?_
  refine zX M M (zQ M M M) (xL w0 X b tb c _ hS9 12) ?_
  rintro _ _ hA
  repeat (refine zE ?_)
  exact ⟨[],_,_,trivial,⟨tb,hA.after⟩,yJ.out⟩
 rw [hop] at hvp
 simp only [wK,cond_false] at hvp
 subst hvp
 rw [if_neg (by simp)]
 repeat (first|refine zF ?_|refine zR ?_|refine zB ?_|refine zE ?_|refine zK M M M ?_|refine zY M M M M M ?_|refine yM M M M M M ?_|refine xN M (c:=[_]) M M M (fun _=>?_)|refine xN M (c:=[_,_,_,_,_,_,_,_,_,_,_,_,_]) M M M (fun _=>?_))
 rename_i b2 b3
 refine yG M M (kY M M) ?_
 refine zcC ?_
 refine jP (fun g' L'=>∃ R,Sub g' [(2,pB b2),(3,pB b3),(35,.bool (decide (x.set<1∨(c.sets.length:Int)<x.set)))]∧L'=pt b2 (.cells [pB b].toArray 24 (0,0))+(pt b3 (.cells (xW x dv).toArray 41 (0,0))+(X+(cliC b (clL c ⟨vmem,vr0,.slice asx c.sets.length cs,vmr,vg,ve,vd,vrq,.pointer none,vow,vw,vco,vou,van⟩)+(hG+(hE+(hD+(hR+(hT+(hK+hO))))))))+fr)+R) ?_ ?_
 ·refine yB [] [0,1,2,3,4,5,6,7,8,9,10,11,12,13,14] (by kernel_rfl) M (by kernel_rfl) (by kernel_rfl) ?_
  refine zbR ?_
  refine jY M M M M (yS M M) (fun n1=>?_) (fun n1=>?_)
  ·rw [decide_eq_true (.inl n1)]
   refine zaR ?_
   skip
   exact ⟨_,zsb,yJ.out⟩
  ·refine zdW ?_
   refine jY M M M M (kB M M) (fun n2=>?_) (fun n2=>?_)
   ·rw [decide_eq_true (.inr (by omega))]
    refine zaD ?_
    skip
    exact ⟨_,zsb,yJ.out⟩
   ·rw [decide_eq_false (by omega)]
    refine zaD ?_
    skip
    exact ⟨_,zsb,yJ.out⟩
 rintro g' _ ⟨R,hsub,rfl⟩
 refine jV hsub ?_
 clear hsub g'
 refine uU M (fun h1=>?_) (fun h1=>?_)
 ·rw [if_pos h1]
  repeat (first|refine zB ?_|refine yM M M M M M ?_)
  refine zX M M (zQ M M M) (xL w0 X b tb c _ hS9 3) ?_
  rintro _ _ hA
  repeat (refine zE ?_)
  exact ⟨[],_,_,trivial,⟨tb,hA.after⟩,yJ.out⟩
 rw [if_neg h1]
 refine zcH ?_
 refine yF M M (kQ M M) (fun h=>?_) (fun h=>?_)
 ·rw [if_pos (by omega)]
  refine zbZ ?_
  refine zX M M (zQ M M M) (xL w0 X b tb c _ hS9 17) ?_
  rintro _ _ hA
  repeat (refine zE ?_)
  exact ⟨[],_,_,trivial,⟨tb,hA.after⟩,yJ.out⟩
 rw [if_neg (by omega)]
 repeat (first|refine zF ?_|refine zB ?_|refine zE ?_|refine zK M M M ?_|refine yM M M M M M ?_|refine zI M ?_)
 refine zX M M (zQ M M M) (hop2 X hS9 hop) ?_
 rintro _ _ ⟨tb',rfl,⟨um,ur0,us,umr,ug,ue,ud,urq,uop,uow,uw,uco,uou,uan⟩,qs,jG,jE,jD,jR,jT,jK,jO,P2,hT2,rfl⟩
 obtain ⟨k,hk⟩:∃ k:Nat,x.set - 1=(k:Int):=⟨(x.set - 1).toNat,by omega⟩
 have hkl:k<c.sets.length:=by omega
 have hz1:=hZ.opened (by omega) (by omega)
 have hsp:=hZ.sets.2 _ (List.getElem_mem hkl)
 have hget:c.sets.getD (x.set - 1).toNat ⟨0,0⟩=c.sets[k]:=by
  rw [hk,Int.toNat_natCast,List.getD_eq_getElem?_getD,List.getElem?_eq_getElem hkl]; rfl
 rw [hget]
 obtain ⟨as2,cs2,hvs2,hrs2⟩:=P2.sets
 simp only at hvs2
 subst hvs2
 have hrs3:RdL w0 X (.slice as2 c.sets.length cs2) c.sets:=hrs2
 obtain ⟨bq,oq,rfl,e,rfl,hat⟩:=hrs3.at hkl
 have hsetl:(kW c).sets=c.sets:=rfl
 have hco1:(kW c).coord=none:=hB.2.2.2.2
 have hF1:xG (kW c):=hF.opened ho (kW c).opn
 generalize c.sets[k]=sp at *
 generalize kW c=c1 at *
 have hkl2:k<c1.sets.length:=by rw [hsetl]; exact hkl
 obtain ⟨vr,va,vw',ap,cp,hr,ha,hw,rfl,k1,k2,k3,k4⟩:=id hT2
 repeat (first|refine zF ?_|refine zE ?_|refine xD M M M (c':=[_]) M M M M ?_|refine xK (c:=[_]) M M M (fun _=>?_))
 rename_i b4
 refine yB [13] [0,1,2,3,4,5,6,7,8,9,10,11,12,13] (by kernel_rfl) M (by kernel_rfl) (by kernel_rfl) ?_
 refine zaF ?_
 refine yD M M M M (pv_sub M M (by omega) (by omega)) ?_
 rw [hk]
 repeat (first|refine yH M M M M M ?_|refine yD M M M M (zZ M M M) ?_|refine gY M M M (by omega) M M M ?_|refine W_atA M M (by assumption) M M M M M ?_)
 refine xS M M M M (wH (vs:=[_,_]) M M M M (c:=[_,_,_,_,_,_,_,_]) (Nat.le_of_ble_eq_true M) (c':=[_,_,_,_,_,_,_,_]) M) (xF.all _) ?_
 rintro _ _ rfl
 refine ⟨zka,?_⟩
 repeat (refine yI ?_)
 repeat (first|refine zF ?_|refine zB ?_|refine zE ?_|refine zK M M M ?_|refine zY M M M M M ?_|refine yM M M M M M ?_|refine xD M M M (c':=(_::_::_::_::_::_::_::_::_::_::_::_::_::_::_::_::_::_::_::_::_::_::_::_::_::_::_::_::_::_::_::_::_::_::_::_::_::_::[])) M M M M ?_|refine uI M M M ?_)
 have hT3:uL w0 X tb' { c1.cur with slo:=sp.lo,shi:=sp.hi } _:=⟨vr,va,vw',ap,cp,hr,ha,hw,rfl,k1,k2,k3,k4⟩
 have hP3:xT w0 X b { c1 with cur:={ c1.cur with slo:=sp.lo,shi:=sp.hi },own:=true } ⟨um,ur0,.slice (some ⟨bq,oq,none⟩) c1.sets.length cs2,umr,ug,ue,ud,urq,uop,pB tb',uw,uco,uou,uan⟩ tb' qs jG jE jD jR _ jK jO :=
  xT.mk P2.mem P2.rngs0 P2.sets P2.mr P2.guess P2.ended P2.dbts P2.reqs P2.opn M (.inl hT3) P2.waits P2.coord P2.out P2.ansd
 have hZ3:Sz n { c1 with cur:={ c1.cur with slo:=sp.lo,shi:=sp.hi },own:=true }:=(hz1.curs (t:={ c1.cur with slo:=sp.lo,shi:=sp.hi }) ⟨⟨hz1.cur.nums.1,hz1.cur.nums.2.1,hsp.1,hsp.2⟩,hz1.cur.parts,hz1.cur.asked,hz1.cur.reads,hz1.cur.writes⟩).free
 have hF3:xG { c1 with cur:={ c1.cur with slo:=sp.lo,shi:=sp.hi },own:=true }:=⟨hF1.guess,hF1.reqs,hF1.rngs,hF1.parts,hF1.asked,hF1.doubts,(fun e _=>by rw [show c1.coord=none from hco1] at e; cases e),hF1.nmem⟩
 have hA2:At w0 (X+(pt b2 (.cells [pB b].toArray 24 (0,0))+pt b4 (.cells [pB tb'].toArray 92 (0,0)))) b2 0 [pB b]:=jI
 have hA4:At w0 (X+(pt b2 (.cells [pB b].toArray 24 (0,0))+pt b4 (.cells [pB tb'].toArray 92 (0,0)))) b4 0 [pB tb']:=jI
 have hS3:=kT.mono (L:=X+(pt b2 (.cells [pB b].toArray 24 (0,0))+pt b4 (.cells [pB tb'].toArray 92 (0,0)))) M (⟨_,qs,jG,jE,jD,jR,_,jK,jO,hP3,rfl⟩:kT w0 X b tb' { c1 with cur:={ c1.cur with slo:=sp.lo,shi:=sp.hi },own:=true } _)
 refine zX M M (zQ M M M) (mapping_spec w0 _ b tb' _ _ hS3 .snap 155 [pB b2,pB b4] ⟨b2,b4,rfl,hA2,hA4⟩ (fun _=>snapRun_spec w0 _ b tb' _ _ n hS3 hZ3 hn hF3 M b2 b4 hA2 hA4)) ?_
 rintro _ _ hA
 repeat (refine zE ?_)
 exact ⟨[],_,_,trivial,⟨tb',hA.trans⟩,yJ.out⟩
theorem find_dbt {l:List Dbt} {p:Dbt→Bool}:(qG p l=-1∧l.find? p=none)∨∃ (k:Nat) (hk:k<l.length),qG p l=k∧l.find? p=some l[k]:=by
 rcases uF p l with ⟨h1,h2⟩|⟨k,hk,h1,h2,h3⟩
 ·exact .inl ⟨h1,List.find?_eq_none.2 (fun x hx=>by rw [h2 x hx]; simp)⟩
 ·exact .inr ⟨k,hk,h1,find_hit hk h2 h3⟩
theorem status_known {c:Cl} {x:Cal} {v:Int} (h:jU c.ended x.txn=some v):dR c x=jC c (cameF v):=by unfold dR; rw [h]
theorem status_no {c:Cl} {x:Cal} (h:jU c.ended x.txn=none) (h2:c.doubts.find? (fun d=>decide (d.id=x.txn))=none):dR c x=jC c 22:=by unfold dR; rw [h,h2]
theorem status_some {c:Cl} {x:Cal} {d:Dbt} (h:jU c.ended x.txn=none) (h2:c.doubts.find? (fun d=>decide (d.id=x.txn))=some d):dR c x=vJ c d:=by unfold dR; rw [h,h2]
theorem statusing_spec (hS:kT w0 X b tb c S) (hZ:Sz n c) (hn:n+100≤100000000) (hF:xG c) :
  yO Tryz.prog w0 78 [pB b,.agg (xW x dv).toArray] (X+S) (fun r h'=>kP w0 X b tb (dR c x) h'):=by
 have hS9:=id hS
 have hdl:=hZ.db.1
 obtain ⟨⟨vmem,vr0,vsets,vmr,vg,ve,vd,vrq,vop,vow,vw,vco,vou,van⟩,ps,hG,hE,hD,hR,hT,hK,hO,P,rfl⟩:=hS
 have hOd:OwL w0 X c.doubts vd hD:=P.dbts
 obtain ⟨ad,cd,rfl⟩:=hOd.shape
 obtain ⟨eb,hve,hem⟩:=P.ended
 simp only at hve
 subst hve
 refine zN Tryz.func78 M Tryz.ntmps78 Tryz.results78 M fun fr=>?_
 repeat (first|refine zF ?_|refine zB ?_|refine zE ?_|refine xN M (c:=[_,_,_,_,_,_,_,_,_,_,_,_,_]) M M M (fun _=>?_))
 rename_i b3
 refine yB [6] [0,1,2,3,4,5,6,7,8,9,10,11] (by kernel_rfl) M (by kernel_rfl) (by kernel_rfl) ?_
 refine zaF ?_
 refine xS M M M M (ev_mapGetOk (ρ:=keyI) (k:=x.txn) M M hem) (xF.all _) ?_
 rintro _ _ ⟨rfl,rfl⟩
 refine ⟨zka,?_⟩
 rw [mapI_vI,show (jU (vI c.ended) x.txn).isSome=(jU c.ended x.txn).isSome by rw [getA_vI]; cases jU c.ended x.txn<;>rfl]
 refine zaD ?_
 refine zdS ?_
 refine zX M M (zQ M M M) (indexFuncDbt_spec w0 (X+hD+pt b3 (.cells (xW x dv).toArray 41 (0,0))) _ c.doubts 159 [pB b3] (fun d=>decide (d.id=x.txn)) hOd.rd (by omega) (fun Y d e hx he=>by
  obtain ⟨a1,c1,a2,c2,rfl,-,-⟩:=he
  exact status1_spec w0 _ d a1 a2 c1 c2 b3 x dv jI)) ?_
 rintro _ _ ⟨rfl,rfl⟩
 rcases hg:jU c.ended x.txn with _|v
 ·have hdf:=find_dbt (l:=c.doubts) (p:=fun d=>decide (d.id=x.txn))
  rcases hdf with ⟨h1,h2⟩|⟨k,hk,h1,h2⟩
  ·rw [status_no hg h2,h1]
   repeat (first|refine zF ?_|refine zR ?_|refine zB ?_|refine zE ?_|refine zK M M M ?_|refine zI M ?_)
   refine kD M M (yS M M) (by decide) ?_
   refine zaU ?_
   refine zX M M (zQ M M M) (xL w0 X b tb c _ hS9 22) ?_
   rintro _ _ hA
   repeat (refine zE ?_)
   exact ⟨[],_,_,trivial,hA.after,yJ.out⟩
  ·rw [status_some hg h2,h1]
   obtain ⟨bq2,oq2,rfl,e,hre2,hat2⟩:=OwL.at hOd hk
   obtain ⟨f1,g1,f2,g2,rfl,q1,q2⟩:=id hre2
   have hn2:=(hF.doubts _ (List.getElem_mem hk)).2
   clear h2
   generalize c.doubts[k]=d2 at *
   repeat (first|refine zF ?_|refine zR ?_|refine zB ?_|refine zE ?_|refine zK M M M ?_|refine zI M ?_)
   refine yP M M (yS M M) (by omega) ?_
   refine zdT ?_
   refine zX M M (zQ M M M) (resolving_spec w0 X b tb c _ n hS9 hZ (by omega) d2 hn2 f1 f2 g1 g2 q1) ?_
   rintro _ _ hA
   repeat (refine zE ?_)
   exact ⟨[],_,_,trivial,hA,yJ.out⟩
 ·rw [status_known hg,show dW c.ended x.txn=v by unfold dW; rw [hg]; rfl]
  repeat (first|refine zF ?_|refine zR ?_|refine zB ?_|refine zE ?_|refine zK M M M ?_|refine zJ M ?_)
  refine zX M M (zQ M M M) (came_spec w0 v) ?_
  rintro _ _ ⟨rfl,rfl⟩
  skip
  refine zX M M (zQ M M M) (xL w0 X b tb c _ hS9 (cameF v)) ?_
  rintro _ _ hA
  repeat (refine zE ?_)
  exact ⟨[],_,_,trivial,hA.after,yJ.out⟩
theorem moving_spec (hS:kT w0 X b tb c S) (hZ:Sz n c) (hn:n+100≤100000000) (hF:xG c) (hx:qH x) :
  yO Tryz.prog w0 79 [pB b,.agg (xW x dv).toArray] (X+S) (fun r h'=>kP w0 X b tb (moveF c x) h'):=by
 have hS9:=id hS
 have hck:=check21_spec w0 X (planOp x) _ (rd_bare w0 X _ rfl M M M) (by exact ⟨xB,xB,xB,xB,xB,hx.lo,hx.hi,xB,xB,xB,hx.src,hx.dst⟩) (by simp [planOp])
 have hoking:=fun (Y:Hp) (hS':kT w0 Y b tb c S) (p q:Nat) (hp:At w0 Y p 0 [pB b]) (hq:At w0 Y q 0 (xW x dv))=>oking_spec w0 Y b tb c S n hS' hZ.bd (by omega) 0 ⟨by omega,by omega⟩ (planOp x) _ (rd_bare w0 _ _ rfl M M M) 161 [pB p,pB q].toArray (.plan x) (fun Z p' q' h1 h2=>⟨p',q',p,q,dv,rfl,h1,h2,hp.mono M,hq.mono M⟩)
 obtain ⟨⟨vmem,vr0,vsets,vmr,vg,ve,vd,vrq,vop,vow,vw,vco,vou,van⟩,ps,hG,hE,hD,hR,hT,hK,hO,P,rfl⟩:=hS
 have hvp:vop=wK c.opn tb:=P.opn
 obtain ⟨amm,cmm,hvm⟩:=P.mem
 simp only at hvm
 subst hvm
 unfold moveF
 generalize hcf:jF (planOp x)=ck at *
 refine zN Tryz.func79 M Tryz.ntmps79 Tryz.results79 M fun fr=>?_
 repeat (first|refine zF ?_|refine zB ?_|refine zE ?_|refine zY M M M M M ?_|refine yM M M M M M ?_|refine xJ M (vs:=[_,_,_,_,_,_,_,_,_,_,_,_,_,_,_,_,_]) M M M M M ?_|refine yL (vs:=[_,_,_,_,_]) (cells:=[_,_,_,_,_,_,_,_,_,_,_,_,_,_,_,_,_]) M M M M ?_|refine yY M (vs:=[_,_,_,_,_,_,_,_,_,_,_,_,_,_,_,_,_]) M M M M (c':=[_,_,_,_,_,_,_,_,_,_,_,_,_,_,_,_,_]) M M ?_|refine xN M (c:=[_]) M M M (fun _=>?_)|refine xN M (c:=[_,_,_,_,_,_,_,_,_,_,_,_,_]) M M M (fun _=>?_)|refine xK (c:=[_,_,_,_,_,_,_,_,_,_,_,_,_,_,_,_,_]) M M M (fun _=>?_))
 rename_i b2 b3 b4
 refine zX M M (zQ M M M) hck ?_
 rintro _ _ ⟨rfl,rfl⟩
 cases hop:c.opn
 rotate_left
 ·rw [hop] at hvp
  simp only [wK,cond_true] at hvp
  subst hvp
  rw [if_pos M]
  refine zbX ?_
  refine yG M M (kY M M) ?_
  refine zbZ ?_
  refine zX M M (zQ M M M) (xL w0 X b tb c _ hS9 12) ?_
  rintro _ _ hA
  repeat (refine zE ?_)
  exact ⟨[],_,_,trivial,hA.after,yJ.out⟩
 rw [hop] at hvp
 simp only [wK,cond_false] at hvp
 subst hvp
 rw [if_neg (by simp)]
 refine zbX ?_
 refine yG M M (kY M M) ?_
 refine zaA ?_
 refine yF M M (xZ M M) (fun h2=>?_) (fun h2=>?_)
 ·rw [if_pos h2]
  refine zbZ ?_
  refine zX M M (zQ M M M) (xL w0 X b tb c _ hS9 ck) ?_
  rintro _ _ hA
  repeat (refine zE ?_)
  exact ⟨[],_,_,trivial,hA.after,yJ.out⟩
 rw [if_neg h2]
 refine zcC ?_
 refine yB [] [0,1,2,3,4,5,6,7,8,9,10,11,12] (by kernel_rfl) M (by kernel_rfl) (by kernel_rfl) ?_
 refine zbR ?_
 refine yD M M M M (pv_max M M) ?_
 rw [show (if x.src<x.dst then x.dst else x.src)=max x.src x.dst by split<;>omega]
 refine zdW ?_
 refine jY M M M M (kQ M M) (fun h3=>?_) (fun h3=>?_)
 ·rw [if_pos (by omega)]
  refine zaD ?_
  repeat (first|refine zB ?_|refine yM M M M M M ?_|refine zJ M ?_)
  refine zX M M (zQ M M M) (xL w0 X b tb c _ hS9 27) ?_
  rintro _ _ hA
  repeat (refine zE ?_)
  exact ⟨[],_,_,trivial,hA.after,yJ.out⟩
 rw [if_neg (by omega)]
 refine zaD ?_
 repeat (first|refine zB ?_|refine yM M M M M M ?_|refine zI M ?_|refine xJ M (vs:=[_,_,_,_,_,_,_,_,_,_,_,_,_,_,_,_,_]) M M M M M ?_|refine uI M M M ?_)
 have hA2:At w0 (X+(pt b2 (.cells [pB b].toArray 24 (0,0))+pt b3 (.cells (xW x dv).toArray 41 (0,0)))) b2 0 [pB b]:=jI
 have hA4:At w0 (X+(pt b2 (.cells [pB b].toArray 24 (0,0))+pt b3 (.cells (xW x dv).toArray 41 (0,0)))) b3 0 (xW x dv):=jI
 have hS3:=hS9.mono (L:=X+(pt b2 (.cells [pB b].toArray 24 (0,0))+pt b3 (.cells (xW x dv).toArray 41 (0,0)))) M
 refine zX M M (zQ M M M) (hoking _ hS3 b2 b3 hA2 hA4) ?_
 rintro _ _ hA
 repeat (refine zE ?_)
 exact ⟨[],_,_,trivial,hA.trans,yJ.out⟩
end
end Sl
end Go.Proofs.YtfahijncpmlhjaaGreat
