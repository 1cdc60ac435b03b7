/-
  What clientOrder.proved hangs on, part 6 of 7: ClQb, ClWaa, ClWbb, ClWcc, ClWdd, ClWx, ClWy, ClWz, ClXb, FltM, ClWna, ClXw, ClXc, ClIm, ClXd.
-/
import Derived.Test.YtfahijncpmlhjaaGreatOd5
import Derived.Test.YtfahijncpmlhjaaGreatOd3
import Derived.Test.YtfahijncpmlhjaaGreatOd2
set_option linter.unusedVariables false
set_option linter.unusedSimpArgs false
namespace Go.Proofs.YtfahijncpmlhjaaGreat
open Go Go.RowKit
namespace Sl
set_option maxHeartbeats 16000000
set_option maxRecDepth 4000
set_option synthInstance.maxHeartbeats 400000
set_option synthInstance.maxSize 100000
attribute [local irreducible] Hold HoldL HoldW
theorem refFour_spec (w0:World) (X:Hp) (s:Nat) :
  Spec Tryz.prog w0 217 [.int .u32 (s:Int)] X (fun r h'=>∃ h,OwL w0 0 (be4 s) r h∧X+h=h'):=by
 refine zN Tryz.func217 M Tryz.ntmps217 Tryz.results217 M fun fr=>?_
 refine zaC ?_
 refine yG M M (pv_shr M M (by decide)) ?_
 refine yG M M (pv_conv_to M (sb24 .u32 s (by decide))) ?_
 repeat (refine zK M M M ?_)
 refine yG M M (pv_shr M M (by decide)) ?_
 refine yG M M (pv_conv_to M (sb16 .u32 s (by decide))) ?_
 repeat (refine zK M M M ?_)
 refine yG M M (pv_shr M M (by decide)) ?_
 refine yG M M (pv_conv_to M (sb8 .u32 s (by decide))) ?_
 repeat (refine zK M M M ?_)
 refine yG M M (pv_conv_to M (sb0 s)) ?_
 repeat (first|refine zE ?_|refine zK M M M ?_|refine zM ?_|refine L_bs (vs:=[_,_,_,_]) (cells:=[_,_,_,_]) M M M M M M (fun _=>?_))
 rename_i b2
 exact ⟨[_],X+_,_,⟨rfl,trivial⟩,⟨_,row4 (w0:=w0) (b:=b2) s,rfl⟩,yJ.out⟩
theorem refOf_spec (w0:World) (X:Hp) (v:Value) (bs:List Bt) (hv:RdL w0 X v bs) (hl:bs.length≤1000000000000) :
  Spec Tryz.prog w0 219 [v] X (fun r h'=>r=.int .u32 (crcF 0 bs:Nat)∧X=h'):=by
 have h:=refMore_spec w0 X v bs 0 (by decide) hv hl
 obtain ⟨a,c,rfl⟩:=hv.shape
 refine zN Tryz.func219 M Tryz.ntmps219 Tryz.results219 M fun fr=>?_
 refine zaC ?_
 refine zX M M (zQ M M M) h ?_
 rintro _ _ ⟨rfl,rfl⟩
 refine zaE ?_
 exact ⟨[_],X,_,⟨rfl,trivial⟩,⟨rfl,rfl⟩,yJ.out⟩
theorem OwL.cap {α:Type} [ρ:Rep α] {w0:World} {X h:Hp} {xs:List α} {a:Option Addr} {n c:Nat} (H:OwL w0 X xs (.slice a n c) h):xs.length≤c:=by
 obtain ⟨es,⟨h1,⟨ad,hv,hnil,_⟩|⟨bk,cap,spare,hv,rfl,h2,_⟩⟩,h4⟩:=H
 ·subst hnil
  have h5:xs.length=0:=(All2.length h4).symm
  omega
 ·have:=All2.length h4
  simp only [Value.slice.injEq] at hv
  omega
def PutW (w0:World) (X:Hp) (G:Prop) (ex:List Bt) (r:Value) (h':Hp):Prop:=∃ (bs:List Bt) (a:Option Addr) (c:Nat) (E:Hp) (e:Int),r=.tuple #[.slice a bs.length c,.int .i64 e]∧RdL w0 E (.slice a bs.length c) bs∧bs.length≤70000∧bs.length≤c∧(G→e=0∧bs=ex)∧X+E=h'
def pieceF (m:Msg) (x:Int):List Bt:=if x=11 then be8 (if m.ok=true then 1 else 0) else if x=12 then be8 m.entries.length else if x=13 then blob m.data else be8 ((numsF m).getD x.toNat 0)
def bodyF (m:Msg):List Bt:=be8 m.kind++be8 m.src++be8 m.dst++(hasF m.kind).flatMap (pieceF m)
theorem refFrame_spec (w0:World) (X:Hp) (a:Option Addr) (c:Nat) (p:List Bt) (hv:RdL w0 X (.slice a p.length c) p) (hl:p.length≤1000000000) :
  Spec Tryz.prog w0 133 [.slice a p.length c] X (PutW w0 X (p.length≤65536) (headF p++p)):=by
 unfold PutW
 refine zN Tryz.func133 M Tryz.ntmps133 Tryz.results133 M fun fr=>?_
 refine zaX ?_
 refine yF M M (pv_gtr M M) (fun n1=>?_) (fun n1=>?_)
 ·refine zaB ?_
  exact ⟨[_,_],X,_,⟨rfl,rfl,trivial⟩,⟨[],none,0,0,2,rfl,RdL.nil _ _ _,by decide,by decide,(fun h=>by exfalso; omega),yA X⟩,yJ.out⟩
 refine zcV ?_
 refine yG M M (pv_conv_to (m:=((p.length:Nat):Int)) M (u32_in _ (by omega))) ?_
 skip
 refine zX M M (zQ M M M) (refFour_spec w0 X p.length) ?_
 rintro v1 _ ⟨h1,ho1,rfl⟩
 have hr1:=ho1.rdh
 obtain ⟨a1,c1,rfl⟩:=ho1.shape
 refine zaC ?_
 refine zX M M (zQ M M M) (refOf_spec w0 h1 _ (be4 p.length) hr1 (by simp [be4])) ?_
 rintro _ _ ⟨rfl,rfl⟩
 repeat (refine zK M M M ?_)
 refine zX M M (zQ M M M) (refMore_spec w0 X (.slice a p.length c) p _ (crcF_lt _ _) hv (by omega)) ?_
 rintro _ _ ⟨rfl,rfl⟩
 generalize hs:crcF (crcF 0 (be4 p.length)) p=s
 skip
 refine zX M M (zQ M M M) (refFour_spec w0 X s) ?_
 rintro v2 _ ⟨h2,ho2,rfl⟩
 have hr2:=ho2.rdh
 obtain ⟨a2,c2,rfl⟩:=ho2.shape
 refine zaM ?_
 have hb4:(be4 s).length=4:=rfl
 have hb5:(be4 p.length).length=4:=rfl
 refine hold_count 4 (fun k g L=>∃ (bs:List Bt) (vo:Value) (h R:Hp),g=[(0,.slice a p.length c),(4,vo),(5,.slice a2 (be4 s).length c2),(6,.int .i64 k)]∧OwL w0 0 bs vo h∧bs=be4 p.length++(be4 s).take k∧L=X+h2+h+fr+R) _
  ⟨_,_,h1,_,rfl,ho1,(List.append_nil _).symm,yJ.out⟩ zsb ?_
 rintro k g L hk ⟨bs,vo,h,R,rfl,ho,hbe,rfl⟩
 have hbl:bs.length≤8:=by rw [hbe,List.length_append,List.length_take]; omega
 refine zaW ?_
 refine yF M M (pv_lss M M) (fun n2=>?_) (fun n2=>?_)
 ·have hx:k<(be4 s).length:=by omega
  obtain ⟨b2,o2,rfl,e,rfl,hat⟩:=hr2.at hx
  repeat (first|refine zF ?_|refine zR ?_|refine zB ?_|refine zE ?_|refine zK M M M ?_|refine zP ?_|refine zJ M ?_|refine L_idx M M (by omega) M M ?_|refine L_at M (by assumption) M M M M ?_|refine L_bs (vs:=[_]) (cells:=[_]) M M M M M M (fun _=>?_))
  refine L_eff M M (ev_appendL (X:=0) (ns:=[(be4 s)[k]]) (h:=h) M M ho (rd_one M) (All2.one M) M M M M M (by simp only [List.length_singleton]; omega)) ?_
  rintro vo' _ ⟨h',ho',rfl⟩
  refine zaI ?_
  exact ⟨by omega,_,zsb,_,vo',h',_,rfl,ho',by rw [hbe,List.append_assoc,List.take_succ_eq_append_getElem hx],yJ.out⟩
 obtain rfl:k=4:=by omega
 have hbe2:bs=headF p:=by rw [hbe,List.take_of_length_le (by omega)]; unfold headF; rw [hs]
 refine zcO ?_
 refine hold_count p.length (fun k g L=>∃ (bs:List Bt) (vo:Value) (h R:Hp),g=[(0,.slice a p.length c),(4,vo),(7,.int .i64 k)]∧OwL w0 0 bs vo h∧bs=headF p++p.take k∧L=X+h+fr+R) _
  ⟨_,_,h,_,rfl,ho,by rw [hbe2,List.take_zero,List.append_nil],yJ.out⟩ zsb ?_
 clear hbe hbe2 hbl ho
 rintro k g L hk ⟨bs,vo,h,R,rfl,ho,hbe,rfl⟩
 have hbl:bs.length=8+k:=by rw [hbe,List.length_append,List.length_take,headF_length]; omega
 refine zaP ?_
 refine yF M M (pv_lss M M) (fun n2=>?_) (fun n2=>?_)
 ·have hx:k<p.length:=by omega
  obtain ⟨b2,o2,rfl,e,rfl,hat⟩:=hv.at hx
  repeat (first|refine zF ?_|refine zR ?_|refine zB ?_|refine zE ?_|refine zK M M M ?_|refine zP ?_|refine zJ M ?_|refine L_idx M M (by omega) M M ?_|refine L_at M (by assumption) M M M M ?_|refine L_bs (vs:=[_]) (cells:=[_]) M M M M M M (fun _=>?_))
  refine L_eff M M (ev_appendL (X:=0) (ns:=[p[k]]) (h:=h) M M ho (rd_one M) (All2.one M) M M M M M (by simp only [List.length_singleton]; omega)) ?_
  rintro vo' _ ⟨h',ho',rfl⟩
  refine zaI ?_
  exact ⟨hx,_,zsb,_,vo',h',_,rfl,ho',by rw [hbe,List.append_assoc,List.take_succ_eq_append_getElem hx],yJ.out⟩
 ·have hr:=ho.rdh
  obtain ⟨a3,c3,rfl⟩:=ho.shape
  have hcap:=ho.cap
  refine zaK ?_
  exact ⟨[_,_],X+h,_,⟨rfl,rfl,trivial⟩,⟨bs,a3,c3,h,0,rfl,hr,by omega,hcap,(fun _=>⟨rfl,by rw [hbe,List.take_of_length_le (by omega)]⟩),rfl⟩,yJ.out⟩
theorem refPut_spec (w0:World) (X:Hp) (m:Msg) (ea da:Option Addr) (ec dc:Nat) (he:RdL w0 X (.slice ea m.entries.length ec) m.entries) (hd:RdL w0 X (.slice da m.data.length dc) m.data) (hel:m.entries.length≤100) (hed:∀ e∈m.entries,e.data.length≤20000) (hdl:m.data.length≤20000) :
  Spec Tryz.prog w0 59 [.agg (cellsM m (.slice ea m.entries.length ec) (.slice da m.data.length dc)).toArray] X (PutW w0 X (GoodP m∧(bodyF m).length≤65536) (headF (bodyF m)++bodyF m)):=by
 unfold PutW
 have hch:=refCheck12_spec w0 X m ea da ec dc he (by omega) hed hdl
 have hb8:=be8_length
 refine zN Tryz.func59 M Tryz.ntmps59 Tryz.results59 M fun fr=>?_
 repeat (first|refine zF ?_|refine zB ?_|refine zE ?_|refine zK M M M ?_|refine L_ldA M (vs:=[_,_,_,_,_,_,_,_,_,_,_,_,_,_,_,_,_]) M M M M M ?_|refine L_box M (c:=[_,_,_,_,_,_,_,_,_,_,_,_,_,_,_,_,_]) M M M (fun _=>?_))
 rename_i b1
 refine zX M M (zQ M M M) hch ?_
 rintro _ _ ⟨e0,rfl,hce,rfl⟩
 refine zaC ?_
 refine yF M M (pv_neq M M) (fun n1=>?_) (fun n1=>?_)
 ·refine zaB ?_
  exact ⟨[_,_],X,_,⟨rfl,rfl,trivial⟩,⟨[],none,0,0,e0,rfl,RdL.nil _ _ _,by decide,by decide,(fun h=>by have:=hce h.1; omega),yA X⟩,yJ.out⟩
 refine zbP ?_
 refine yB [2,5,8] [0,1,3,4,6,7,2,5,8,9] (by kernel_rfl) M (by kernel_rfl) (by kernel_rfl) ?_
 refine zbR ?_
 refine W_call M M M M (zQ M M M) (refPutInt_spec w0 X (.slice none 0 0) [] m.kind (RdL.nil _ _ _) (by decide)) (Kept.all _) ?_
 rintro v1 _ ⟨h1,ho1,rfl⟩
 refine ⟨zka,?_⟩
 skip
 refine W_call M M M M (zQ M M M) (refPutInt_spec w0 h1 v1 _ m.src ho1.rdh (by simp [be8_length])) (Kept.all _) ?_
 rintro v2 _ ⟨h2,ho2,rfl⟩
 refine ⟨zka,?_⟩
 skip
 refine W_call M M M M (zQ M M M) (refPutInt_spec w0 h2 v2 _ m.dst ho2.rdh (by simp [be8_length])) (Kept.all _) ?_
 rintro v3 _ ⟨h3,ho3,rfl⟩
 refine ⟨zka,?_⟩
 refine zaD ?_
 refine zcD ?_
 refine zX M M (zQ M M M) (has12_spec w0 X m.kind) ?_
 rintro v4 _ ⟨lh,h4,ho4,hl4,hl5,hlq,rfl⟩
 obtain ⟨a4,c4,rfl⟩:=ho4.shape
 repeat (first|refine zF ?_|refine zB ?_|refine zE ?_|refine zK M M M ?_|refine L_ldA M (vs:=[_,_,_,_,_,_,_,_,_,_,_,_,_,_,_,_,_]) M M M M M ?_)
 refine zX M M (zQ M M M) (numbers12_spec w0 X m _ _ rfl M) ?_
 rintro v5 _ ⟨l,h5,ho5,hlm,rfl⟩
 have hl6:l.length=11:=by rw [hlm]; rfl
 obtain ⟨a5,c5,rfl⟩:=ho5.shape
 refine zaM ?_
 refine hold_count lh.length (fun i g L=>∃ (bs:List Bt) (vo:Value) (h R:Hp),g=[(1,pB b1),(5,vo),(6,.slice a4 lh.length c4),(7,.slice a5 l.length c5),(8,.int .i64 i)]∧OwL w0 0 bs vo h∧bs.length≤24+i*3000000∧(m.entries=[]→bs=be8 m.kind++be8 m.src++be8 m.dst++(lh.take i).flatMap (pieceF m)) ∧
  L=pt b1 (.cells (cellsM m (.slice ea m.entries.length ec) (.slice da m.data.length dc)).toArray 55 (0,0))+(X+h4+h5+h+fr)+R) _
  ⟨_,_,h3,_,rfl,ho3,by simp [be8_length],(fun _=>by simp),yJ.out⟩ zsb ?_
 rintro i g L hi ⟨bs,vo,h,R,rfl,ho,hbl,hbe,rfl⟩
 have hr:=ho.rdh
 refine zaP ?_
 refine yF M M (pv_lss M M) (fun n2=>?_) (fun n2=>?_)
 rotate_left
 ·obtain ⟨a6,c6,rfl⟩:=ho.shape
  refine zbA ?_
  refine zX M M (zQ M M M) (refFrame_spec w0 h a6 c6 bs hr (by omega)) ?_
  unfold PutW
  rintro _ _ ⟨bs2,a7,c7,E,e,rfl,hrE,hlE,hcE,hxE,rfl⟩
  have hbb:m.entries=[]→bs=bodyF m:=by
   intro h0
   rw [hbe h0,List.take_of_length_le (by omega),hlq]; rfl
  refine zaE ?_
  exact ⟨[_,_],X+E,_,⟨rfl,rfl,trivial⟩,⟨bs2,a7,c7,E,e,rfl,hrE,hlE,hcE,(fun hg=>by have h8:=hbb hg.1.may.ents; rw [← h8]; exact hxE (by rw [h8]; exact hg.2)),rfl⟩,yJ.out⟩
 have hx:i<lh.length:=by omega
 have hxr:=hl5 _ (List.getElem_mem hx)
 have hint:=fun (n:Int)=>refPutInt_spec w0 h vo bs n hr (by omega)
 obtain ⟨b7,o7,rfl,e,rfl,hat⟩:=ho4.rdh.at hx
 have htk:∀ y:List Bt,pieceF m lh[i]=y→(m.entries=[]→bs++y=be8 m.kind++be8 m.src++be8 m.dst++(lh.take (i+1)).flatMap (pieceF m)):=by
  intro y hy h0
  rw [hbe h0,List.take_succ_eq_append_getElem hx,List.flatMap_append,List.append_assoc,← hy]; simp
 generalize lh[i]=x at *
 refine zaT ?_
 refine yF M M (pv_eql M M) (fun n3=>?_) (fun n3=>?_)
 ·refine zeG ?_
  cases hok:m.ok
  all_goals
   repeat (first|refine zB ?_|refine zE ?_|refine zK M M M ?_|refine zP ?_|refine zJ M ?_|refine zI M ?_)
   refine zX M M (zQ M M M) (hint _) ?_
   rintro vo' _ ⟨h',ho',rfl⟩
   refine zaI ?_
   exact ⟨hx,_,zsb,_,vo',h',_,rfl,ho',by rw [List.length_append,be8_length]; omega,htk _ (by unfold pieceF; rw [if_pos n3,hok]; rfl),yJ.out⟩
 refine zaA ?_
 refine yF M M (pv_eql M M) (fun n4=>?_) (fun n4=>?_)
 ·refine zeH ?_
  refine zX M M (zQ M M M) (hint m.entries.length) ?_
  rintro vo' _ ⟨h',ho',rfl⟩
  refine zaM ?_
  refine hold_count m.entries.length (fun k g L=>∃ (bs2:List Bt) (vo2:Value) (g2 R:Hp),g=[(1,pB b1),(5,vo2),(6,.slice (some ⟨b7,o7,none⟩) lh.length c4),(7,.slice a5 l.length c5),(8,.int .i64 i),(10,.int .i64 k)]∧OwL w0 0 bs2 vo2 g2∧bs2.length≤32+i*3000000+k*25000∧(m.entries=[]→bs2=bs++be8 m.entries.length) ∧
   L=pt b1 (.cells (cellsM m (.slice ea m.entries.length ec) (.slice da m.data.length dc)).toArray 55 (0,0))+(X+h4+h5+g2+fr)+R) _
   ⟨_,_,h',_,rfl,ho',by rw [List.length_append,be8_length]; omega,(fun _=>rfl),yJ.out⟩ zsb ?_
  rintro k g L hk ⟨bs2,vo2,g2,R2,rfl,hq,hql,hqe,rfl⟩
  refine zcU ?_
  refine yF M M (pv_lss M M) (fun n5=>?_) (fun n5=>?_)
  ·have hxe:k<m.entries.length:=by omega
   have hdd:=hed _ (List.getElem_mem hxe)
   obtain ⟨b8,o8,rfl,e8,he8,hat8⟩:=he.at hxe
   obtain ⟨a9,c9,rfl,hrd⟩:=id he8
   repeat (first|refine zF ?_|refine zR ?_|refine zB ?_|refine zE ?_|refine zK M M M ?_|refine zY M M M M M ?_|refine L_ld M M M M M ?_|refine zP ?_|refine zJ M ?_|refine L_idx M M (by omega) M M ?_|refine L_atA M (by assumption) M M M M ?_|refine L_stA M (vs:=[_,_,_]) M M M M (c':=[_,_,_]) M M ?_|refine L_alloc (c:=[_,_,_]) M M M (fun _=>?_))
   rename_i b9
   refine yB [3,6] [0,1,2,4,5,3,6,7] (by kernel_rfl) M (by kernel_rfl) (by kernel_rfl) ?_
   refine zaF ?_
   refine W_call M M M M (zQ M M M) (refPutInt_spec w0 g2 vo2 bs2 m.entries[k].term hq.rdh (by omega)) (Kept.all _) ?_
   rintro u1 _ ⟨g3,hq3,rfl⟩
   refine ⟨zka,?_⟩
   skip
   refine W_call M M M M (zQ M M M) (refPutInt_spec w0 g3 u1 _ m.entries[k].kind hq3.rdh (by rw [List.length_append,be8_length]; omega)) (Kept.all _) ?_
   rintro u2 _ ⟨g4,hq4,rfl⟩
   refine ⟨zka,?_⟩
   refine zaD ?_
   refine zdP ?_
   refine zX M M (zQ M M M) (refPutBlob_spec w0 (X+g4) u2 (.slice a9 m.entries[k].data.length c9) _ m.entries[k].data (hq4.rdh.mono (R:=X) (by ac_rfl)) (hrd.mono M) (by rw [List.length_append,List.length_append,be8_length,be8_length]; omega) (by omega)) ?_
   rintro u3 _ ⟨g5,hq5,rfl⟩
   refine zaI ?_
   exact ⟨hxe,_,zsb,_,u3,g5,_,rfl,hq5,by simp only [List.length_append,be8_length,blob]; omega,(fun h0=>absurd hxe (by rw [h0]; exact Nat.not_lt_zero _)),yJ.out⟩
  ·refine zcQ ?_
   exact ⟨hx,_,zsb,_,vo2,g2,_,rfl,hq,by omega,(fun h0=>by rw [hqe h0]; exact htk _ (by unfold pieceF; rw [if_neg n3,if_pos n4]) h0),yJ.out⟩
 refine zaA ?_
 refine yF M M (pv_eql M M) (fun n5=>?_) (fun n5=>?_)
 ·refine zdJ ?_
  refine zX M M (zQ M M M) (refPutBlob_spec w0 (X+h) vo (.slice da m.data.length dc) bs m.data (hr.mono (R:=X) (by ac_rfl)) (hd.mono M) (by omega) (by omega)) ?_
  rintro vo' _ ⟨h',ho',rfl⟩
  refine zaI ?_
  exact ⟨hx,_,zsb,_,vo',h',_,rfl,ho',by simp only [List.length_append,be8_length,blob]; omega,htk _ (by unfold pieceF; rw [if_neg n3,if_neg n4,if_pos n5]),yJ.out⟩
 ·obtain ⟨n,rfl⟩:∃ n:Nat,x=(n:Int):=⟨x.toNat,by omega⟩
  have hxl:n<l.length:=by omega
  obtain ⟨b8,o8,rfl,e8,rfl,hat8⟩:=ho5.rdh.at hxl
  repeat (first|refine zB ?_|refine zE ?_|refine zK M M M ?_|refine zI M ?_|refine L_idx M M (by omega) M M ?_|refine L_at M (by assumption) M M M M ?_)
  refine zX M M (zQ M M M) (hint _) ?_
  rintro vo' _ ⟨h',ho',rfl⟩
  have hnl:(numsF m).getD n 0=l[n]:=by subst hlm; rw [List.getD_eq_getElem?_getD,List.getElem?_eq_getElem hxl]; rfl
  refine zaI ?_
  exact ⟨hx,_,zsb,_,vo',h',_,rfl,ho',by rw [List.length_append,be8_length]; omega,htk _ (by unfold pieceF; rw [if_neg n3,if_neg n4,if_neg n5,Int.toNat_natCast,hnl]),yJ.out⟩
theorem packet_spec (w0:World) (X:Hp) (m:Msg) (ea da:Option Addr) (ec dc:Nat) (he:RdL w0 X (.slice ea m.entries.length ec) m.entries) (hd:RdL w0 X (.slice da m.data.length dc) m.data) (hel:m.entries.length≤100) (hed:∀ e∈m.entries,e.data.length≤20000) (hdl:m.data.length≤20000) :
  Spec Tryz.prog w0 27 [.agg (cellsM m (.slice ea m.entries.length ec) (.slice da m.data.length dc)).toArray] X
   (fun r h'=>∃ (bs:List Bt) (a:Option Addr) (c:Nat) (E:Hp),r=.agg #[.int .i64 m.src,.int .i64 m.dst,.slice a bs.length c]∧RdL w0 E (.slice a bs.length c) bs∧bs.length≤70000∧bs.length≤c∧(GoodP m∧(bodyF m).length≤65536→bs=headF (bodyF m)++bodyF m)∧X+E=h'):=by
 have hput:=refPut_spec w0 X m ea da ec dc he hd hel hed hdl
 unfold PutW at hput
 refine zN Tryz.func27 M Tryz.ntmps27 Tryz.results27 M fun fr=>?_
 repeat (first|refine zF ?_|refine zB ?_|refine zE ?_|refine L_ldA M (vs:=[_,_,_,_,_,_,_,_,_,_,_,_,_,_,_,_,_]) M M M M M ?_|refine L_box M (c:=[_,_,_,_,_,_,_,_,_,_,_,_,_,_,_,_,_]) M M M (fun _=>?_)|refine L_alloc (c:=[_,_,_]) M M M (fun _=>?_))
 rename_i b1 b2
 refine zX M M (zQ M M M) hput ?_
 rintro _ _ ⟨bs,a,c,E,e,rfl,hr,hl,hc,hx,rfl⟩
 repeat (first|refine zF ?_|refine zB ?_|refine zE ?_|refine zK M M M ?_|refine zY M M M M M ?_|refine L_ld M M M M M ?_|refine zM ?_|refine L_build (vs:=[_,_,_]) (cells:=[_,_,_]) M M M M ?_|refine L_stA M (vs:=[_,_,_]) M M M M (c':=[_,_,_]) M M ?_)
 exact ⟨[_],X+E,_,⟨⟨_,rfl,zL (vs:=[_,_,_]) M M M⟩,trivial⟩,⟨bs,a,c,E,rfl,hr,hl,hc,(fun h=>(hx h).2),rfl⟩,yJ.out⟩
set_option maxHeartbeats 4000000
def NowT (w0:World) (X:Hp) (b tb:Nat) (c:Cl) (h:Hp):Prop :=
 ∃ V ps hG hE hD hR hT hK hO,Parts w0 X b c V tb ps hG hE hD hR hT hK hO∧TxnAt w0 X tb c.cur hT∧X+(cliC b (clL c V)+(hG+(hE+(hD+(hR+(hT+(hK+hO)))))))=h
theorem tfree_all {c:Cl} (hF:Fine c) (hp:pendH c=[]):∀ r∈c.reqs,tfree r.heard=true:=by
 intro r hr
 refine (hF.reqs (core r) (List.mem_map.2 ⟨r,hr,rfl⟩)).2.2 ?_
 by_cases ht:r.tidy=true
 ·exact ht
 ·have:r.heard∈pendH c:=List.mem_map.2 ⟨r,List.mem_filter.2 ⟨hr,by simpa using ht⟩,rfl⟩
  rw [hp] at this; cases this
theorem barrier_open {c:Cl} (h:c.opn=true):barrierF c=codeF c 12:=by unfold barrierF; rw [if_pos h]
theorem barrier_none {c:Cl} (h:c.opn=false) (hd:c.doubts=[]):barrierF c=codeF c 0:=by unfold barrierF; rw [if_neg (by rw [h]; simp),hd]
theorem barrier_some {c:Cl} (h:c.opn=false) {d:Dbt} {l:List Dbt} (hd:c.doubts=d::l):barrierF c=resolveF c d:=by unfold barrierF; rw [if_neg (by rw [h]; simp),hd]
theorem zdV {G G' : Prop} (h : G') (f : Zh G'→G:=by intro h; (repeat (first|refine yH M M M M M ?_|refine yD M M M M (zZ M M M) ?_|refine W_load M M M M (yE M) (zG M (zS M)) ?_|refine yD M M M M (pv_len M) ?_)); exact h.o) : G:=f ⟨h⟩
section
variable (w0:World) (X:Hp) (b tb:Nat) (c:Cl) (S:Hp) (n:Nat)
theorem opening2_spec (hS:CliT w0 X b tb c S) (hB:Bd n c) (hn:n≤1000000000) (htx:0≤c.txns∧c.txns≤1048575) (hf:∀ r∈c.reqs,tfree r.heard=true) (hw:c.waits=none) (ho:c.opn=false) (hw2:c.own=false) :
  Spec Tryz.prog w0 138 [pB b] (X+S) (fun r h'=>∃ tb',r=pB tb'∧NowT w0 X b tb' (openedF c) h'):=by
 obtain ⟨⟨vmem,vr0,vsets,vmr,vg,ve,vd,vrq,vop,vow,vw,vco,vou,van⟩,ps,hG,hE,hD,hR,hT,hK,hO,P,rfl⟩:=hS
 obtain ⟨r1,r2,r3,r4,rfl⟩:=P.reqs
 have hid:=hB.id
 have hck:=hB.clock
 have e1:IntKind.i64.wrap (c.id*2 ^ (min (20:Int).toNat IntKind.i64.bits))=c.id*1048576:=by
  rw [show min (20:Int).toNat IntKind.i64.bits=20 from rfl]
  exact wrap_i64_in _ (by omega) (by omega)
 have e2:IntKind.i64.wrap (c.clock*2 ^ (min (3:Int).toNat IntKind.i64.bits))=c.clock*8:=by
  rw [show min (3:Int).toNat IntKind.i64.bits=3 from rfl]
  exact wrap_i64_in _ (by omega) (by omega)
 refine zN Tryz.func138 M Tryz.ntmps138 Tryz.results138 M fun fr=>?_
 repeat (first|refine zF ?_|refine zB ?_|refine zE ?_|refine zK M M M ?_|refine zY M M M M M ?_|refine L_ld M M M M M ?_|refine L_add M M (by omega) (by omega) M M ?_|refine L_st M M M (c':=(_::_::_::_::_::_::_::_::_::_::_::_::_::_::_::_::_::_::_::_::_::_::_::_::_::_::_::_::_::_::_::_::_::_::_::_::_::_::[])) M M M M ?_)
 refine yB [21] [0,1,2,3,4,5,6,7,8,9,10,11,12,13,14,15,16,17,18,19,20,21,22] (by kernel_rfl) M (by kernel_rfl) (by kernel_rfl) ?_
 refine zaF ?_
 refine yD M M M M (pv_shl M M (by omega)) ?_
 rw [e1]
 repeat (first|refine yH M M M M M ?_|refine yD M M M M (zZ M M M) ?_|refine W_load M M M M (yE M) (zG M (zS M)) ?_|refine yD M M M M (pv_add M M (by omega) (by omega)) ?_)
 refine yD M M M M (pv_shl M M (by omega)) ?_
 rw [e2]
 repeat (first|refine yH M M M M M ?_|refine yD M M M M (zZ M M M) ?_|refine W_load M M M M (yE M) (zG M (zS M)) ?_|refine yD M M M M (pv_add M M (by omega) (by omega)) ?_|refine yD M M M M (pv_build (vs:=[_,_]) (cells:=[_,_,_,_,_,_,_,_]) M M) ?_)
 refine W_eff M M M M (ev_box M) (Kept.all _) ?_
 rintro _ _ ⟨bt,rfl,hL⟩
 have hL':_=txnC bt (.int .i64 (c.id*1048576+(c.txns+1))::.int .i64 (c.clock*8+c.id)::.slice none 0 0::.slice none 0 0::.slice none 0 0::.slice none 0 0::.int .i64 0::.int .i64 0::[])+_:=hL
 subst hL'
 clear hL
 refine ⟨zka,?_⟩
 refine zaD ?_
 repeat (refine zM ?_)
 have hT2:TxnAt w0 X bt (openedF c).cur (txnC bt (.int .i64 (c.id*1048576+(c.txns+1))::.int .i64 (c.clock*8+c.id)::.slice none 0 0::.slice none 0 0::.slice none 0 0::.slice none 0 0::.int .i64 0::.int .i64 0::[])) :=
  ⟨.slice none 0 0,.slice none 0 0,.slice none 0 0,none,0,0,0,0,by rw [yA,yA,yA]; rfl,OwL.nil _ _,OwL.nil _ _,OwL.nil _ _,RdL.nil _ _ _⟩
 have hww:WaitAt w0 X b bt c.waits vw:=by have:=P.waits; rw [hw] at this ⊢; exact this
 have hoo:vop=ptrIf c.opn bt:=by have:=P.opn; rw [ho] at this ⊢; exact this
 have hoo2:vow=ptrIf c.own bt:=by have:=P.own; rw [hw2] at this ⊢; exact this
 have hP:Parts w0 X b (openedF c) ⟨vmem,vr0,vsets,vmr,vg,ve,vd,vrq,vop,vow,vw,vco,vou,van⟩ bt ps hG hE hD (r1+r2) _ hK hO :=
  Parts.mk P.mem P.rngs0 P.sets P.mr P.guess P.ended P.dbts (ReqsAt.intro r3 (r4.free hf)) hoo hoo2 (.inl hT2) hww P.coord P.out P.ansd
 exact ret_cli [_] ⟨rfl,trivial⟩ hP (by exact rfl) ⟨bt,rfl,_,ps,hG,hE,hD,_,_,hK,hO,hP,hT2,rfl⟩
variable (x:Cal) (dv:Value)
theorem beginning_spec (hS:CliT w0 X b tb c S) (hZ:Sz n c) (hn:n+100≤100000000) (hF:Fine c) (hB:Base c) (ho:c.own=false) :
  Spec Tryz.prog w0 70 [pB b,.agg (cellsX x dv).toArray] (X+S) (fun r h'=>∃ tb',After w0 X b tb' (beginF c) h'):=by
 have htx:=hZ.num.2.2.2.1
 have hop2:=fun h=>opening2_spec w0 X b tb c S n hS hZ.bd (by omega) htx (tfree_all hF hB.2.2.1) hB.2.2.2.1 h ho
 have hS9:=id hS
 obtain ⟨⟨vmem,vr0,vsets,vmr,vg,ve,vd,vrq,vop,vow,vw,vco,vou,van⟩,ps,hG,hE,hD,hR,hT,hK,hO,P,rfl⟩:=hS
 have hvp:vop=ptrIf c.opn tb:=P.opn
 unfold beginF
 refine zN Tryz.func70 M Tryz.ntmps70 Tryz.results70 M fun fr=>?_
 cases hop:c.opn
 ·rw [hop] at hvp
  simp only [ptrIf,cond_false] at hvp
  subst hvp
  rw [if_neg (by simp)]
  repeat (first|refine zF ?_|refine zR ?_|refine zB ?_|refine zE ?_|refine zK M M M ?_|refine zY M M M M M ?_|refine L_ld M M M M M ?_|refine L_box M (c:=[_,_,_,_,_,_,_,_,_,_,_,_,_]) M M M (fun _=>?_))
  refine yG M M (pv_neq_nilp M M) ?_
  refine zbG ?_
  refine yF M M (pv_geq M M) (fun h=>?_) (fun h=>?_)
  ·rw [if_pos (by omega)]
   refine zaU ?_
   refine zX M M (zQ M M M) (coding_spec w0 X b tb c _ hS9 17) ?_
   rintro _ _ hA
   repeat (refine zE ?_)
   exact ⟨[],_,_,trivial,⟨tb,hA.after⟩,yJ.out⟩
  ·rw [if_neg (by omega)]
   refine zaA ?_
   refine zX M M (zQ M M M) (hop2 hop) ?_
   rintro _ _ ⟨tb',rfl,⟨um,ur0,us,umr,ug,ue,ud,urq,uop,uow,uw,uco,uou,uan⟩,qs,jG,jE,jD,jR,jT,jK,jO,P2,hT2,rfl⟩
   generalize hc1:openedF c=c1 at *
   obtain ⟨vr,va,vw',ap,cp,hr,ha,hw,rfl,k1,k2,k3,k4⟩:=id hT2
   repeat (first|refine zB ?_|refine zE ?_|refine zK M M M ?_|refine zY M M M M M ?_|refine L_ld M M M M M ?_|refine L_st M M M (c':=(_::_::_::_::_::_::_::_::_::_::_::_::_::_::_::_::_::_::_::_::_::_::_::_::_::_::_::_::_::_::_::_::_::_::_::_::_::_::[])) M M M M ?_|refine L_build (vs:=[_]) (cells:=[_,_,_]) M M M M ?_)
   have hP3:Parts w0 X b { c1 with opn:=true } ⟨um,ur0,us,umr,ug,ue,ud,urq,pB tb',uow,uw,uco,uou,uan⟩ tb' qs jG jE jD jR _ jK jO :=
    Parts.mk P2.mem P2.rngs0 P2.sets P2.mr P2.guess P2.ended P2.dbts P2.reqs M P2.own (.inl hT2) P2.waits P2.coord P2.out P2.ansd
   refine zX M M (zQ M M M) (saying_spec w0 X b tb' { c1 with opn:=true } _ ⟨_,qs,jG,jE,jD,jR,_,jK,jO,hP3,rfl⟩ ⟨0,c1.cur.id,[]⟩ none 0 (RdL.nil _ _ _)) ?_
   rintro _ _ hA
   repeat (refine zE ?_)
   exact ⟨[],_,_,trivial,⟨tb',hA.after⟩,yJ.out⟩
 ·rw [hop] at hvp
  simp only [ptrIf,cond_true] at hvp
  subst hvp
  rw [if_pos M]
  repeat (first|refine zF ?_|refine zR ?_|refine zB ?_|refine zE ?_|refine zK M M M ?_|refine zY M M M M M ?_|refine L_ld M M M M M ?_|refine L_box M (c:=[_,_,_,_,_,_,_,_,_,_,_,_,_]) M M M (fun _=>?_))
  refine yG M M (pv_neq_nilp M M) ?_
  refine zaU ?_
  refine zX M M (zQ M M M) (coding_spec w0 X b tb c _ hS9 12) ?_
  rintro _ _ hA
  repeat (refine zE ?_)
  exact ⟨[],_,_,trivial,⟨tb,hA.after⟩,yJ.out⟩
theorem aborting_spec (hS:CliT w0 X b tb c S) (hZ:Sz n c) (hn:n+100≤100000000) (hF:Fine c) :
  Spec Tryz.prog w0 74 [pB b,.agg (cellsX x dv).toArray] (X+S) (fun r h'=>After w0 X b tb (abortF c) h'):=by
 have hS9:=id hS
 obtain ⟨⟨vmem,vr0,vsets,vmr,vg,ve,vd,vrq,vop,vow,vw,vco,vou,van⟩,ps,hG,hE,hD,hR,hT,hK,hO,P,rfl⟩:=hS
 have hvp:vop=ptrIf c.opn tb:=P.opn
 unfold abortF
 refine zN Tryz.func74 M Tryz.ntmps74 Tryz.results74 M fun fr=>?_
 cases hop:c.opn
 ·rw [hop] at hvp
  simp only [ptrIf,cond_false] at hvp
  subst hvp
  rw [if_pos M]
  repeat (first|refine zF ?_|refine zB ?_|refine zE ?_|refine zK M M M ?_|refine zY M M M M M ?_|refine L_ld M M M M M ?_|refine L_box M (c:=[_,_,_,_,_,_,_,_,_,_,_,_,_]) M M M (fun _=>?_))
  refine yG M M (pv_eql_nilp M M) ?_
  refine zaY ?_
  refine zX M M (zQ M M M) (coding_spec w0 X b tb c _ hS9 22) ?_
  rintro _ _ hA
  refine zbI ?_
  exact ⟨[],_,_,trivial,hA.after,yJ.out⟩
 ·rw [hop] at hvp
  simp only [ptrIf,cond_true] at hvp
  subst hvp
  rw [if_neg (by simp)]
  have hT2:TxnAt w0 X tb c.cur hT:=P.txn.elim id fun h=>by rw [h.1] at hop; cases hop
  have hca:=hZ.cur.asked
  have hcp:=hZ.cur.parts
  have hgs:=groups_spec w0 X tb c.cur hT hT2 (by omega)
  have hgl:=groupsF_five hF
  obtain ⟨vr,va,vw',ap,cp,hr,ha,hw,rfl,k1,k2,k3,k4⟩:=id hT2
  repeat (first|refine zF ?_|refine zB ?_|refine zE ?_|refine zK M M M ?_|refine zY M M M M M ?_|refine L_ld M M M M M ?_|refine L_box M (c:=[_,_,_,_,_,_,_,_,_,_,_,_,_]) M M M (fun _=>?_))
  refine yG M M (pv_eql_nilp M M) ?_
  refine zbP ?_
  refine yB [12,13] [0,1,2,3,4,5,6,7,8,9,10,11,12,13] (by kernel_rfl) M (by kernel_rfl) (by kernel_rfl) ?_
  refine zaF ?_
  refine W_call M M M M (zQ M M M) hgs (Kept.all _) ?_
  rintro _ _ ⟨k5,o5,rfl⟩
  obtain ⟨a5,c5,rfl⟩:=o5.shape
  refine ⟨zka,?_⟩
  skip
  have htd:=tidying_spec w0 (X+k5) b tb c _ n (hS9.mono M) hZ.bd c.cur.id 2 (groupsF c.cur) a5 c5 (o5.rd (X:=0) (R:=X)) (by omega) hF.groups hZ.cur.nums.1 i64_2
  refine W_call M M M M (zQ M M M) htd (.drop (by kernel_rfl) (.drop (by kernel_rfl) (.drop (by kernel_rfl) .nil))) ?_
  rintro _ _ ⟨S2,h2,rfl⟩
  refine ⟨trivial,?_⟩
  generalize tidyF c c.cur.id (groupsF c.cur) 2=c2 at *
  obtain ⟨⟨um,ur0,us,umr,ug,ue,ud,urq,uop,uow,uw,uco,uou,uan⟩,qs,jG,jE,jD,jR,jT,jK,jO,P2,rfl⟩:=h2
  repeat (refine yI ?_)
  refine zbU ?_
  have hP3:Parts w0 (X+k5) b { c2 with opn:=false } ⟨um,ur0,us,umr,ug,ue,ud,urq,.pointer none,uow,uw,uco,uou,uan⟩ tb qs jG jE jD jR jT jK jO :=
   Parts.mk P2.mem P2.rngs0 P2.sets P2.mr P2.guess P2.ended P2.dbts P2.reqs M P2.own (P2.txn.imp id fun h=>⟨rfl,h.2⟩) P2.waits P2.coord P2.out P2.ansd
  refine zX M M (zQ M M M) (coding_spec w0 (X+k5) b tb { c2 with opn:=false } _ ⟨_,qs,jG,jE,jD,jR,jT,jK,jO,hP3,rfl⟩ 0) ?_
  rintro _ _ hA
  repeat (refine zE ?_)
  exact ⟨[],_,_,trivial,hA.after.trans,yJ.out⟩
theorem barring_spec (hS:CliT w0 X b tb c S) (hZ:Sz n c) (hn:n+100≤100000000) (hF:Fine c) :
  Spec Tryz.prog w0 75 [pB b,.agg (cellsX x dv).toArray] (X+S) (fun r h'=>After w0 X b tb (barrierF c) h'):=by
 have hS9:=id hS
 obtain ⟨⟨vmem,vr0,vsets,vmr,vg,ve,vd,vrq,vop,vow,vw,vco,vou,van⟩,ps,hG,hE,hD,hR,hT,hK,hO,P,rfl⟩:=hS
 have hvp:vop=ptrIf c.opn tb:=P.opn
 have hOd:OwL w0 X c.doubts vd hD:=P.dbts
 obtain ⟨ad,cd,rfl⟩:=hOd.shape
 refine zN Tryz.func75 M Tryz.ntmps75 Tryz.results75 M fun fr=>?_
 cases hop:c.opn
 ·rw [hop] at hvp
  simp only [ptrIf,cond_false] at hvp
  subst hvp
  repeat (first|refine zF ?_|refine zR ?_|refine zB ?_|refine zE ?_|refine zK M M M ?_|refine zY M M M M M ?_|refine L_ld M M M M M ?_|refine L_box M (c:=[_,_,_,_,_,_,_,_,_,_,_,_,_]) M M M (fun _=>?_))
  refine yG M M (pv_neq_nilp M M) ?_
  refine zcB ?_
  refine yF M M (pv_eql M M) (fun h2=>?_) (fun h2=>?_)
  ·have e0:c.doubts=[]:=List.eq_nil_of_length_eq_zero (by omega)
   rw [barrier_none hop e0]
   refine zaU ?_
   refine zX M M (zQ M M M) (coding_spec w0 X b tb c _ hS9 0) ?_
   rintro _ _ hA
   repeat (refine zE ?_)
   exact ⟨[],_,_,trivial,hA.after,yJ.out⟩
  ·have hx:0<c.doubts.length:=by omega
   have hd:c.doubts=c.doubts[0]::c.doubts.drop 1:=by rw [← List.drop_eq_getElem_cons hx,List.drop_zero]
   rw [barrier_some hop hd]
   obtain ⟨bq2,oq2,rfl,e,hre2,hat2⟩:=OwL.at hOd hx
   obtain ⟨f1,g1,f2,g2,rfl,q1,q2⟩:=id hre2
   have hn2:=(hF.doubts _ (List.getElem_mem hx)).2
   clear hd
   generalize c.doubts[0]=d2 at *
   refine zdS ?_
   refine zX M M (zQ M M M) (resolving_spec w0 X b tb c _ n hS9 hZ (by omega) d2 hn2 f1 f2 g1 g2 q1) ?_
   rintro _ _ hA
   repeat (refine zE ?_)
   exact ⟨[],_,_,trivial,hA,yJ.out⟩
 ·rw [hop] at hvp
  simp only [ptrIf,cond_true] at hvp
  subst hvp
  rw [barrier_open hop]
  repeat (first|refine zF ?_|refine zR ?_|refine zB ?_|refine zE ?_|refine zK M M M ?_|refine zY M M M M M ?_|refine L_ld M M M M M ?_|refine L_box M (c:=[_,_,_,_,_,_,_,_,_,_,_,_,_]) M M M (fun _=>?_))
  refine yG M M (pv_neq_nilp M M) ?_
  refine zaU ?_
  refine zX M M (zQ M M M) (coding_spec w0 X b tb c _ hS9 12) ?_
  rintro _ _ hA
  repeat (refine zE ?_)
  exact ⟨[],_,_,trivial,hA.after,yJ.out⟩
theorem membering_spec (hS:CliT w0 X b tb c S) (hZ:Sz n c) (hn:n+100≤100000000) (hF:Fine c) :
  Spec Tryz.prog w0 80 [pB b,.agg (cellsX x dv).toArray] (X+S) (fun r h'=>After w0 X b tb (memberF c x) h'):=by
 have hS9:=id hS
 have hnm:=hF.nmem
 obtain ⟨⟨vmem,vr0,vsets,vmr,vg,ve,vd,vrq,vop,vow,vw,vco,vou,van⟩,ps,hG,hE,hD,hR,hT,hK,hO,P,rfl⟩:=hS
 obtain ⟨amm,cmm,hvm⟩:=P.mem
 simp only at hvm
 subst hvm
 unfold memberF
 refine zN Tryz.func80 M Tryz.ntmps80 Tryz.results80 M fun fr=>?_
 have bad:∀ {e:Int} {h:Hp},Now w0 X b tb (codeF c e) h→After w0 X b tb (codeF c e) h:=fun h=>h.after
 repeat (first|refine zF ?_|refine zR ?_|refine zB ?_|refine zE ?_|refine L_box M (c:=[_,_,_,_,_,_,_,_,_,_,_,_,_]) M M M (fun _=>?_))
 rename_i b3
 refine hold_join (fun g' L'=>Sub g' [(0,pB b),(3,pB b3),(7,.bool (decide (x.group<0∨(c.nmem:Int)≤x.group)))]∧L'=pt b3 (.cells (cellsX x dv).toArray 41 (0,0))+(X+(cliC b (clL c ⟨.slice amm c.nmem cmm,vr0,vsets,vmr,vg,ve,vd,vrq,vop,vow,vw,vco,vou,van⟩)+(hG+(hE+(hD+(hR+(hT+(hK+hO))))))))+fr) ?_ ?_
 ·refine yB [] [0,1,2,3,4,5,6,7,8,9,10,11,12,13,14] (by kernel_rfl) M (by kernel_rfl) (by kernel_rfl) ?_
  refine zbR ?_
  refine W_dec M M M M (pv_lss M M) (fun n1=>?_) (fun n1=>?_)
  ·rw [decide_eq_true (.inl n1)]
   refine zaQ ?_
   skip
   exact ⟨zsb,yJ.out⟩
  ·refine zdV ?_
   refine W_dec M M M M (pv_geq M M) (fun n2=>?_) (fun n2=>?_)
   ·rw [decide_eq_true (.inr (by omega))]
    refine zaD ?_
    skip
    exact ⟨zsb,yJ.out⟩
   ·rw [decide_eq_false (by omega)]
    refine zaD ?_
    skip
    exact ⟨zsb,yJ.out⟩
 rintro g' _ ⟨hsub,rfl⟩
 refine hold_env hsub ?_
 clear hsub g'
 refine hold_cond_d M (fun h1=>?_) (fun h1=>?_)
 ·rw [if_pos h1]
  refine zbQ ?_
  refine zX M M (zQ M M M) (coding_spec w0 X b tb c _ hS9 27) ?_
  rintro _ _ hA
  repeat (refine zE ?_)
  exact ⟨[],_,_,trivial,hA.after,yJ.out⟩
 rw [if_neg h1]
 have hgr:grp x.group:=by unfold grp; omega
 repeat (refine zF ?_)
 refine hold_join (fun g' L'=>Sub g' [(0,pB b),(3,pB b3),(24,.bool (decide (x.node<1∨c.nodes<x.node)))]∧L'=pt b3 (.cells (cellsX x dv).toArray 41 (0,0))+(X+(cliC b (clL c ⟨.slice amm c.nmem cmm,vr0,vsets,vmr,vg,ve,vd,vrq,vop,vow,vw,vco,vou,van⟩)+(hG+(hE+(hD+(hR+(hT+(hK+hO))))))))+fr) ?_ ?_
 ·refine yB [] [0,1,2,3,4,5,6,7,8,9,10,11,12,13] (by kernel_rfl) M (by kernel_rfl) (by kernel_rfl) ?_
  refine zbR ?_
  refine W_dec M M M M (pv_lss M M) (fun n1=>?_) (fun n1=>?_)
  ·rw [decide_eq_true (.inl n1)]
   refine zaQ ?_
   skip
   exact ⟨zsb,rfl⟩
  ·refine zaF ?_
   refine W_dec M M M M (pv_gtr M M) (fun n2=>?_) (fun n2=>?_)
   ·rw [decide_eq_true (.inr (by omega))]
    refine zaD ?_
    skip
    exact ⟨zsb,rfl⟩
   ·rw [decide_eq_false (by omega)]
    refine zaD ?_
    skip
    exact ⟨zsb,rfl⟩
 rintro g' _ ⟨hsub,rfl⟩
 refine hold_env hsub ?_
 clear hsub g'
 refine hold_cond_d M (fun h2=>?_) (fun h2=>?_)
 ·rw [if_pos h2]
  refine zbQ ?_
  refine zX M M (zQ M M M) (coding_spec w0 X b tb c _ hS9 28) ?_
  rintro _ _ hA
  repeat (refine zE ?_)
  exact ⟨[],_,_,trivial,hA.after,yJ.out⟩
 rw [if_neg h2]
 refine zcD ?_
 refine yF M M (pv_neq M M) (fun n1=>?_) (fun n1=>?_)
 ·refine zaO ?_
  refine yF M M (pv_neq M M) (fun n2=>?_) (fun n2=>?_)
  ·rw [if_pos ⟨n1,n2⟩]
   refine zaU ?_
   refine zX M M (zQ M M M) (coding_spec w0 X b tb c _ hS9 3) ?_
   rintro _ _ hA
   repeat (refine zE ?_)
   exact ⟨[],_,_,trivial,hA.after,yJ.out⟩
  ·rw [if_neg (fun h=>n2 h.2)]
   repeat (first|refine zB ?_|refine zE ?_|refine zK M M M ?_|refine zI M ?_|refine L_ldA M (vs:=[_,_,_,_,_,_,_,_,_,_,_,_,_]) M M M M M ?_)
   refine zX M M (zQ M M M) (changing_spec w0 X b tb c _ n hS9 hZ.bd (by omega) x dv 0 (by omega) hgr) ?_
   rintro _ _ hA
   repeat (refine zE ?_)
   exact ⟨[],_,_,trivial,hA,yJ.out⟩
 ·rw [if_neg (fun h=>n1 h.1)]
  repeat (first|refine zB ?_|refine zE ?_|refine zK M M M ?_|refine L_skip M M ?_|refine zI M ?_|refine L_ldA M (vs:=[_,_,_,_,_,_,_,_,_,_,_,_,_]) M M M M M ?_)
  refine zX M M (zQ M M M) (changing_spec w0 X b tb c _ n hS9 hZ.bd (by omega) x dv 0 (by omega) hgr) ?_
  rintro _ _ hA
  repeat (refine zE ?_)
  exact ⟨[],_,_,trivial,hA,yJ.out⟩
end
theorem zbZ {G G' : Prop} (h : G') (f : Zh G'→G:=by intro h; (repeat (first|refine zB ?_|refine zE ?_|refine zK M M M ?_|refine L_ld M M M M M ?_|refine zJ M ?_)); exact h.o) : G:=f ⟨h⟩
section
variable (w0:World) (X:Hp) (b tb:Nat) (c:Cl) (S:Hp) (n:Nat)
variable (x:Cal) (dv:Value)
theorem committing_spec (hS:CliT w0 X b tb c S) (hZ:Sz n c) (hn:n+100≤100000000) (hF:Fine c) :
  Spec Tryz.prog w0 73 [pB b,.agg (cellsX x dv).toArray] (X+S) (fun r h'=>After w0 X b tb (commitF c) h'):=by
 have hS9:=id hS
 obtain ⟨⟨vmem,vr0,vsets,vmr,vg,ve,vd,vrq,vop,vow,vw,vco,vou,van⟩,ps,hG,hE,hD,hR,hT,hK,hO,P,rfl⟩:=hS
 have hvp:vop=ptrIf c.opn tb:=P.opn
 unfold commitF
 refine zN Tryz.func73 M Tryz.ntmps73 Tryz.results73 M fun fr=>?_
 cases hop:c.opn
 ·rw [hop] at hvp
  simp only [ptrIf,cond_false] at hvp
  subst hvp
  rw [if_pos M]
  repeat (first|refine zF ?_|refine zR ?_|refine zB ?_|refine zE ?_|refine zK M M M ?_|refine zY M M M M M ?_|refine L_ld M M M M M ?_|refine L_st M M M (c':=[_]) M M M M ?_|refine L_box M (c:=[_]) M M M (fun _=>?_)|refine L_box M (c:=[_,_,_,_,_,_,_,_,_,_,_,_,_]) M M M (fun _=>?_)|refine L_alloc (c:=[_]) M M M (fun _=>?_))
  refine yG M M (pv_eql_nilp M M) ?_
  refine zbZ ?_
  refine zX M M (zQ M M M) (coding_spec w0 X b tb c _ hS9 22) ?_
  rintro _ _ hA
  repeat (refine zE ?_)
  exact ⟨[],_,_,trivial,hA.after,yJ.out⟩
 ·rw [hop] at hvp
  simp only [ptrIf,cond_true] at hvp
  subst hvp
  rw [if_neg (by simp)]
  have hT2:TxnAt w0 X tb c.cur hT:=P.txn.elim id fun h=>by rw [h.1] at hop; cases hop
  obtain ⟨vr,va,vw',ap,cp,hr,ha,hw,rfl,k1,k2,k3,k4⟩:=id hT2
  obtain ⟨ar,cr,rfl⟩:=k1.shape
  obtain ⟨aw,cw,rfl⟩:=k3.shape
  have hrl:=hZ.cur.reads.1
  have hwl:=hZ.cur.writes.1
  repeat (first|refine zF ?_|refine zR ?_|refine zB ?_|refine zE ?_|refine zK M M M ?_|refine zY M M M M M ?_|refine L_ld M M M M M ?_|refine L_st M M M (c':=[_]) M M M M ?_|refine L_box M (c:=[_]) M M M (fun _=>?_)|refine L_box M (c:=[_,_,_,_,_,_,_,_,_,_,_,_,_]) M M M (fun _=>?_)|refine L_alloc (c:=[_]) M M M (fun _=>?_))
  rename_i b2 b3 b4
  refine yG M M (pv_eql_nilp M M) ?_
  refine zcC ?_
  refine yB [] [0,1,2,3,4,5,6,7,8,9,10,11,12] (by kernel_rfl) M (by kernel_rfl) (by kernel_rfl) ?_
  refine zfD ?_
  refine W_dec M M M M (pv_eql M M) (fun h2=>?_) (fun h2=>?_)
  ·rw [if_pos (by omega)]
   refine zaD ?_
   repeat (first|refine zF ?_|refine zB ?_|refine zE ?_|refine zK M M M ?_|refine zY M M M M M ?_|refine L_ld M M M M M ?_|refine zJ M ?_|refine L_st M M M (c':=(_::_::_::_::_::_::_::_::_::_::_::_::_::_::_::_::_::_::_::_::_::_::_::_::_::_::_::_::_::_::_::_::_::_::_::_::_::_::[])) M M M M ?_)
   have hP3:Parts w0 X b { c with opn:=false } ⟨vmem,vr0,vsets,vmr,vg,ve,vd,vrq,.pointer none,vow,vw,vco,vou,van⟩ tb ps hG hE hD hR _ hK hO :=
    Parts.mk P.mem P.rngs0 P.sets P.mr P.guess P.ended P.dbts P.reqs M P.own (.inl hT2) P.waits P.coord P.out P.ansd
   refine zX M M (zQ M M M) (coding_spec w0 X b tb { c with opn:=false } _ ⟨_,ps,hG,hE,hD,hR,_,hK,hO,hP3,rfl⟩ 0) ?_
   rintro _ _ hA
   repeat (refine zE ?_)
   exact ⟨[],_,_,trivial,hA.after,yJ.out⟩
  ·rw [if_neg (by omega)]
   refine zaD ?_
   repeat (first|refine zB ?_|refine L_ld M M M M M ?_|refine zI M ?_|refine L_clo M M M ?_)
   have hA2:At w0 (X+(pt b2 (.cells [pB b].toArray 24 (0,0))+pt b4 (.cells [pB tb].toArray 92 (0,0)))) b2 0 [pB b]:=at_box
   have hA4:At w0 (X+(pt b2 (.cells [pB b].toArray 24 (0,0))+pt b4 (.cells [pB tb].toArray 92 (0,0)))) b4 0 [pB tb]:=at_box
   have hS3:=hS9.mono (L:=X+(pt b2 (.cells [pB b].toArray 24 (0,0))+pt b4 (.cells [pB tb].toArray 92 (0,0)))) M
   refine zX M M (zQ M M M) (mapping_spec w0 _ b tb c _ hS3 .prep 153 [pB b2,pB b4] ⟨b2,b4,rfl,hA2,hA4⟩ (fun _=>commitRun_spec w0 _ b tb c _ n hS3 hZ hn hF hop b2 b4 hA2 hA4)) ?_
   rintro _ _ hA
   repeat (refine zE ?_)
   exact ⟨[],_,_,trivial,hA.trans,yJ.out⟩
theorem readingSnap_spec (hS:CliT w0 X b tb c S) (hZ:Sz n c) (hn:n+100≤100000000) (hF:Fine c) (hx:CalSz x) :
  Spec Tryz.prog w0 77 [pB b,.agg (cellsX x dv).toArray] (X+S) (fun r h'=>After w0 X b tb (readSnapF c x) h'):=by
 have hml:=hZ.m.len
 have hS9:=id hS
 have hck:=check21_spec w0 X (keptOp x ⟨0,0,0,0⟩) _ (rd_bare w0 X _ rfl M M M) (by exact ⟨i64_0,i64_0,i64_0,i64_0,i64_0,i64_0,i64_0,hx.block,hx.snap,i64_0,i64_0,i64_0⟩) (by simp [keptOp])
 obtain ⟨⟨vmem,vr0,vsets,vmr,vg,ve,vd,vrq,vop,vow,vw,vco,vou,van⟩,ps,hG,hE,hD,hR,hT,hK,hO,P,rfl⟩:=hS
 unfold readSnapF
 refine zN Tryz.func77 M Tryz.ntmps77 Tryz.results77 M fun fr=>?_
 repeat (first|refine zF ?_|refine zB ?_|refine zE ?_|refine zY M M M M M ?_|refine L_ld M M M M M ?_|refine L_box M (c:=[_]) M M M (fun _=>?_)|refine L_box M (c:=[_,_,_,_,_,_,_,_,_,_,_,_,_]) M M M (fun _=>?_))
 rename_i b2 b3
 refine zX M M (zQ M M M) (inDisk_spec w0 x.block) ?_
 rintro _ _ ⟨rfl,rfl⟩
 by_cases hd:0≤x.block∧x.block<64
 rotate_left
 ·rw [if_pos hd,decide_eq_false hd]
  repeat (first|refine zF ?_|refine zB ?_|refine zE ?_|refine zK M M M ?_|refine L_ld M M M M M ?_|refine zJ M ?_)
  refine zX M M (zQ M M M) (coding_spec w0 X b tb c _ hS9 20) ?_
  rintro _ _ hA
  refine zbI ?_
  exact ⟨[],_,_,trivial,hA.after,yJ.out⟩
 rw [if_neg (fun h=>h hd),decide_eq_true hd]
 refine zeX ?_
 refine zX M M (zQ M M M) hck ?_
 rintro _ _ ⟨rfl,rfl⟩
 generalize checkF (keptOp x ⟨0,0,0,0⟩)=ck at *
 refine zaC ?_
 refine yF M M (pv_neq M M) (fun h2=>?_) (fun h2=>?_)
 ·rw [if_pos h2]
  repeat (first|refine zF ?_|refine zB ?_|refine zE ?_|refine zK M M M ?_|refine L_ld M M M M M ?_|refine zJ M ?_)
  refine zX M M (zQ M M M) (coding_spec w0 X b tb c _ hS9 ck) ?_
  rintro _ _ hA
  refine zbI ?_
  exact ⟨[],_,_,trivial,hA.after,yJ.out⟩
 ·rw [if_neg h2]
  repeat (first|refine zB ?_|refine zE ?_|refine L_ld M M M M M ?_|refine zP ?_|refine zI M ?_|refine L_clo M M M ?_)
  have hA2:At w0 (X+(pt b2 (.cells [pB b].toArray 24 (0,0))+pt b3 (.cells (cellsX x dv).toArray 41 (0,0)))) b2 0 [pB b]:=at_box
  have hA4:At w0 (X+(pt b2 (.cells [pB b].toArray 24 (0,0))+pt b3 (.cells (cellsX x dv).toArray 41 (0,0)))) b3 0 (cellsX x dv):=at_box
  have hS3:=hS9.mono (L:=X+(pt b2 (.cells [pB b].toArray 24 (0,0))+pt b3 (.cells (cellsX x dv).toArray 41 (0,0)))) M
  refine zX M M (zQ M M M) (mapping_spec w0 _ b tb c _ hS3 (.kept x) 156 [pB b2,pB b3] ⟨b2,b3,dv,rfl,hA2,hA4⟩ (fun _=>keptRun_spec w0 _ b tb c _ n hS3 hZ.bd (by omega) hF (by omega) x dv b2 b3 hA2 hA4)) ?_
  rintro _ _ hA
  repeat (refine zE ?_)
  exact ⟨[],_,_,trivial,hA.trans,yJ.out⟩
theorem snapping_spec (hS:CliT w0 X b tb c S) (hZ:Sz n c) (hn:n+100≤100000000) (hF:Fine c) (hB:Base c) (ho:c.own=false) :
  Spec Tryz.prog w0 76 [pB b,.agg (cellsX x dv).toArray] (X+S) (fun r h'=>∃ tb',After w0 X b tb' (snapshotF c x) h'):=by
 have htx:=hZ.num.2.2.2.1
 have hop2:=fun (Y:Hp) (hS':CliT w0 Y b tb c S) h=>opening2_spec w0 Y b tb c S n hS' hZ.bd (by omega) htx (tfree_all hF hB.2.2.1) hB.2.2.2.1 h ho
 have hS9:=id hS
 have hsl:=hZ.sets.1
 obtain ⟨⟨vmem,vr0,vsets,vmr,vg,ve,vd,vrq,vop,vow,vw,vco,vou,van⟩,ps,hG,hE,hD,hR,hT,hK,hO,P,rfl⟩:=hS
 have hvp:vop=ptrIf c.opn tb:=P.opn
 obtain ⟨asx,cs,hvs,hrs⟩:=P.sets
 simp only at hvs
 subst hvs
 unfold snapshotF
 refine zN Tryz.func76 M Tryz.ntmps76 Tryz.results76 M fun fr=>?_
 cases hop:c.opn
 rotate_left
 ·rw [hop] at hvp
  simp only [ptrIf,cond_true] at hvp
  subst hvp
  rw [if_pos M]
  repeat (first|refine zF ?_|refine zR ?_|refine zB ?_|refine zE ?_|refine zK M M M ?_|refine zY M M M M M ?_|refine L_ld M M M M M ?_|refine L_box M (c:=[_]) M M M (fun _=>?_)|refine L_box M (c:=[_,_,_,_,_,_,_,_,_,_,_,_,_]) M M M (fun _=>?_))
  refine yG M M (pv_neq_nilp M M) ?_
  refine zbZ ?_
  refine zX M M (zQ M M M) (coding_spec w0 X b tb c _ hS9 12) ?_
  rintro _ _ hA
  repeat (refine zE ?_)
  exact ⟨[],_,_,trivial,⟨tb,hA.after⟩,yJ.out⟩
 rw [hop] at hvp
 simp only [ptrIf,cond_false] at hvp
 subst hvp
 rw [if_neg (by simp)]
 repeat (first|refine zF ?_|refine zR ?_|refine zB ?_|refine zE ?_|refine zK M M M ?_|refine zY M M M M M ?_|refine L_ld M M M M M ?_|refine L_box M (c:=[_]) M M M (fun _=>?_)|refine L_box M (c:=[_,_,_,_,_,_,_,_,_,_,_,_,_]) M M M (fun _=>?_))
 rename_i b2 b3
 refine yG M M (pv_neq_nilp M M) ?_
 refine zcC ?_
 refine hold_join (fun g' L'=>∃ R,Sub g' [(2,pB b2),(3,pB b3),(35,.bool (decide (x.set<1∨(c.sets.length:Int)<x.set)))]∧L'=pt b2 (.cells [pB b].toArray 24 (0,0))+(pt b3 (.cells (cellsX x dv).toArray 41 (0,0))+(X+(cliC b (clL c ⟨vmem,vr0,.slice asx c.sets.length cs,vmr,vg,ve,vd,vrq,.pointer none,vow,vw,vco,vou,van⟩)+(hG+(hE+(hD+(hR+(hT+(hK+hO))))))))+fr)+R) ?_ ?_
 ·refine yB [] [0,1,2,3,4,5,6,7,8,9,10,11,12,13,14] (by kernel_rfl) M (by kernel_rfl) (by kernel_rfl) ?_
  refine zbR ?_
  refine W_dec M M M M (pv_lss M M) (fun n1=>?_) (fun n1=>?_)
  ·rw [decide_eq_true (.inl n1)]
   refine zaQ ?_
   skip
   exact ⟨_,zsb,yJ.out⟩
  ·refine zdV ?_
   refine W_dec M M M M (pv_gtr M M) (fun n2=>?_) (fun n2=>?_)
   ·rw [decide_eq_true (.inr (by omega))]
    refine zaD ?_
    skip
    exact ⟨_,zsb,yJ.out⟩
   ·rw [decide_eq_false (by omega)]
    refine zaD ?_
    skip
    exact ⟨_,zsb,yJ.out⟩
 rintro g' _ ⟨R,hsub,rfl⟩
 refine hold_env hsub ?_
 clear hsub g'
 refine hold_cond_d M (fun h1=>?_) (fun h1=>?_)
 ·rw [if_pos h1]
  repeat (first|refine zB ?_|refine L_ld M M M M M ?_)
  refine zX M M (zQ M M M) (coding_spec w0 X b tb c _ hS9 3) ?_
  rintro _ _ hA
  repeat (refine zE ?_)
  exact ⟨[],_,_,trivial,⟨tb,hA.after⟩,yJ.out⟩
 rw [if_neg h1]
 refine zcG ?_
 refine yF M M (pv_geq M M) (fun h=>?_) (fun h=>?_)
 ·rw [if_pos (by omega)]
  refine zbZ ?_
  refine zX M M (zQ M M M) (coding_spec w0 X b tb c _ hS9 17) ?_
  rintro _ _ hA
  repeat (refine zE ?_)
  exact ⟨[],_,_,trivial,⟨tb,hA.after⟩,yJ.out⟩
 rw [if_neg (by omega)]
 repeat (first|refine zF ?_|refine zB ?_|refine zE ?_|refine zK M M M ?_|refine L_ld M M M M M ?_|refine zI M ?_)
 refine zX M M (zQ M M M) (hop2 X hS9 hop) ?_
 rintro _ _ ⟨tb',rfl,⟨um,ur0,us,umr,ug,ue,ud,urq,uop,uow,uw,uco,uou,uan⟩,qs,jG,jE,jD,jR,jT,jK,jO,P2,hT2,rfl⟩
 obtain ⟨k,hk⟩:∃ k:Nat,x.set - 1=(k:Int):=⟨(x.set - 1).toNat,by omega⟩
 have hkl:k<c.sets.length:=by omega
 have hz1:=hZ.opened (by omega) (by omega)
 have hsp:=hZ.sets.2 _ (List.getElem_mem hkl)
 have hget:c.sets.getD (x.set - 1).toNat ⟨0,0⟩=c.sets[k]:=by
  rw [hk,Int.toNat_natCast,List.getD_eq_getElem?_getD,List.getElem?_eq_getElem hkl]; rfl
 rw [hget]
 obtain ⟨as2,cs2,hvs2,hrs2⟩:=P2.sets
 simp only at hvs2
 subst hvs2
 have hrs3:RdL w0 X (.slice as2 c.sets.length cs2) c.sets:=hrs2
 obtain ⟨bq,oq,rfl,e,rfl,hat⟩:=hrs3.at hkl
 have hsetl:(openedF c).sets=c.sets:=rfl
 have hco1:(openedF c).coord=none:=hB.2.2.2.2
 have hF1:Fine (openedF c):=hF.opened ho (openedF c).opn
 generalize c.sets[k]=sp at *
 generalize openedF c=c1 at *
 have hkl2:k<c1.sets.length:=by rw [hsetl]; exact hkl
 obtain ⟨vr,va,vw',ap,cp,hr,ha,hw,rfl,k1,k2,k3,k4⟩:=id hT2
 repeat (first|refine zF ?_|refine zE ?_|refine L_st M M M (c':=[_]) M M M M ?_|refine L_alloc (c:=[_]) M M M (fun _=>?_))
 rename_i b4
 refine yB [13] [0,1,2,3,4,5,6,7,8,9,10,11,12,13] (by kernel_rfl) M (by kernel_rfl) (by kernel_rfl) ?_
 refine zaF ?_
 refine yD M M M M (pv_sub M M (by omega) (by omega)) ?_
 rw [hk]
 repeat (first|refine yH M M M M M ?_|refine yD M M M M (zZ M M M) ?_|refine W_idx M M M (by omega) M M M ?_|refine W_atA M M (by assumption) M M M M M ?_)
 refine W_eff M M M M (ev_storeA (vs:=[_,_]) M M M M (c:=[_,_,_,_,_,_,_,_]) (Nat.le_of_ble_eq_true M) (c':=[_,_,_,_,_,_,_,_]) M) (Kept.all _) ?_
 rintro _ _ rfl
 refine ⟨zka,?_⟩
 repeat (refine yI ?_)
 repeat (first|refine zF ?_|refine zB ?_|refine zE ?_|refine zK M M M ?_|refine zY M M M M M ?_|refine L_ld M M M M M ?_|refine L_st M M M (c':=(_::_::_::_::_::_::_::_::_::_::_::_::_::_::_::_::_::_::_::_::_::_::_::_::_::_::_::_::_::_::_::_::_::_::_::_::_::_::[])) M M M M ?_|refine L_clo M M M ?_)
 have hT3:TxnAt w0 X tb' { c1.cur with slo:=sp.lo,shi:=sp.hi } _:=⟨vr,va,vw',ap,cp,hr,ha,hw,rfl,k1,k2,k3,k4⟩
 have hP3:Parts w0 X b { c1 with cur:={ c1.cur with slo:=sp.lo,shi:=sp.hi },own:=true } ⟨um,ur0,.slice (some ⟨bq,oq,none⟩) c1.sets.length cs2,umr,ug,ue,ud,urq,uop,pB tb',uw,uco,uou,uan⟩ tb' qs jG jE jD jR _ jK jO :=
  Parts.mk P2.mem P2.rngs0 P2.sets P2.mr P2.guess P2.ended P2.dbts P2.reqs P2.opn M (.inl hT3) P2.waits P2.coord P2.out P2.ansd
 have hZ3:Sz n { c1 with cur:={ c1.cur with slo:=sp.lo,shi:=sp.hi },own:=true }:=(hz1.curs (t:={ c1.cur with slo:=sp.lo,shi:=sp.hi }) ⟨⟨hz1.cur.nums.1,hz1.cur.nums.2.1,hsp.1,hsp.2⟩,hz1.cur.parts,hz1.cur.asked,hz1.cur.reads,hz1.cur.writes⟩).free
 have hF3:Fine { c1 with cur:={ c1.cur with slo:=sp.lo,shi:=sp.hi },own:=true }:=⟨hF1.guess,hF1.reqs,hF1.rngs,hF1.parts,hF1.asked,hF1.doubts,(fun e _=>by rw [show c1.coord=none from hco1] at e; cases e),hF1.nmem⟩
 have hA2:At w0 (X+(pt b2 (.cells [pB b].toArray 24 (0,0))+pt b4 (.cells [pB tb'].toArray 92 (0,0)))) b2 0 [pB b]:=at_box
 have hA4:At w0 (X+(pt b2 (.cells [pB b].toArray 24 (0,0))+pt b4 (.cells [pB tb'].toArray 92 (0,0)))) b4 0 [pB tb']:=at_box
 have hS3:=CliT.mono (L:=X+(pt b2 (.cells [pB b].toArray 24 (0,0))+pt b4 (.cells [pB tb'].toArray 92 (0,0)))) M (⟨_,qs,jG,jE,jD,jR,_,jK,jO,hP3,rfl⟩:CliT w0 X b tb' { c1 with cur:={ c1.cur with slo:=sp.lo,shi:=sp.hi },own:=true } _)
 refine zX M M (zQ M M M) (mapping_spec w0 _ b tb' _ _ hS3 .snap 155 [pB b2,pB b4] ⟨b2,b4,rfl,hA2,hA4⟩ (fun _=>snapRun_spec w0 _ b tb' _ _ n hS3 hZ3 hn hF3 M b2 b4 hA2 hA4)) ?_
 rintro _ _ hA
 repeat (refine zE ?_)
 exact ⟨[],_,_,trivial,⟨tb',hA.trans⟩,yJ.out⟩
theorem find_dbt {l:List Dbt} {p:Dbt→Bool}:(idxF p l=-1∧l.find? p=none)∨∃ (k:Nat) (hk:k<l.length),idxF p l=k∧l.find? p=some l[k]:=by
 rcases idxF_cases p l with ⟨h1,h2⟩|⟨k,hk,h1,h2,h3⟩
 ·exact .inl ⟨h1,List.find?_eq_none.2 (fun x hx=>by rw [h2 x hx]; simp)⟩
 ·exact .inr ⟨k,hk,h1,find_hit hk h2 h3⟩
theorem status_known {c:Cl} {x:Cal} {v:Int} (h:getA c.ended x.txn=some v):statusF c x=codeF c (cameF v):=by unfold statusF; rw [h]
theorem status_no {c:Cl} {x:Cal} (h:getA c.ended x.txn=none) (h2:c.doubts.find? (fun d=>decide (d.id=x.txn))=none):statusF c x=codeF c 22:=by unfold statusF; rw [h,h2]
theorem status_some {c:Cl} {x:Cal} {d:Dbt} (h:getA c.ended x.txn=none) (h2:c.doubts.find? (fun d=>decide (d.id=x.txn))=some d):statusF c x=resolveF c d:=by unfold statusF; rw [h,h2]
theorem statusing_spec (hS:CliT w0 X b tb c S) (hZ:Sz n c) (hn:n+100≤100000000) (hF:Fine c) :
  Spec Tryz.prog w0 78 [pB b,.agg (cellsX x dv).toArray] (X+S) (fun r h'=>After w0 X b tb (statusF c x) h'):=by
 have hS9:=id hS
 have hdl:=hZ.db.1
 obtain ⟨⟨vmem,vr0,vsets,vmr,vg,ve,vd,vrq,vop,vow,vw,vco,vou,van⟩,ps,hG,hE,hD,hR,hT,hK,hO,P,rfl⟩:=hS
 have hOd:OwL w0 X c.doubts vd hD:=P.dbts
 obtain ⟨ad,cd,rfl⟩:=hOd.shape
 obtain ⟨eb,hve,hem⟩:=P.ended
 simp only at hve
 subst hve
 refine zN Tryz.func78 M Tryz.ntmps78 Tryz.results78 M fun fr=>?_
 repeat (first|refine zF ?_|refine zB ?_|refine zE ?_|refine L_box M (c:=[_,_,_,_,_,_,_,_,_,_,_,_,_]) M M M (fun _=>?_))
 rename_i b3
 refine yB [6] [0,1,2,3,4,5,6,7,8,9,10,11] (by kernel_rfl) M (by kernel_rfl) (by kernel_rfl) ?_
 refine zaF ?_
 refine W_eff M M M M (ev_mapGetOk (ρ:=keyI) (k:=x.txn) M M hem) (Kept.all _) ?_
 rintro _ _ ⟨rfl,rfl⟩
 refine ⟨zka,?_⟩
 rw [mapI_vI,show (getA (vI c.ended) x.txn).isSome=(getA c.ended x.txn).isSome by rw [getA_vI]; cases getA c.ended x.txn<;>rfl]
 refine zaD ?_
 refine zdR ?_
 refine zX M M (zQ M M M) (indexFuncDbt_spec w0 (X+hD+pt b3 (.cells (cellsX x dv).toArray 41 (0,0))) _ c.doubts 159 [pB b3] (fun d=>decide (d.id=x.txn)) hOd.rd (by omega) (fun Y d e hx he=>by
  obtain ⟨a1,c1,a2,c2,rfl,-,-⟩:=he
  exact status1_spec w0 _ d a1 a2 c1 c2 b3 x dv at_box)) ?_
 rintro _ _ ⟨rfl,rfl⟩
 rcases hg:getA c.ended x.txn with _|v
 ·have hdf:=find_dbt (l:=c.doubts) (p:=fun d=>decide (d.id=x.txn))
  rcases hdf with ⟨h1,h2⟩|⟨k,hk,h1,h2⟩
  ·rw [status_no hg h2,h1]
   repeat (first|refine zF ?_|refine zR ?_|refine zB ?_|refine zE ?_|refine zK M M M ?_|refine zI M ?_)
   refine L_yes M M (pv_lss M M) (by decide) ?_
   refine zaU ?_
   refine zX M M (zQ M M M) (coding_spec w0 X b tb c _ hS9 22) ?_
   rintro _ _ hA
   repeat (refine zE ?_)
   exact ⟨[],_,_,trivial,hA.after,yJ.out⟩
  ·rw [status_some hg h2,h1]
   obtain ⟨bq2,oq2,rfl,e,hre2,hat2⟩:=OwL.at hOd hk
   obtain ⟨f1,g1,f2,g2,rfl,q1,q2⟩:=id hre2
   have hn2:=(hF.doubts _ (List.getElem_mem hk)).2
   clear h2
   generalize c.doubts[k]=d2 at *
   repeat (first|refine zF ?_|refine zR ?_|refine zB ?_|refine zE ?_|refine zK M M M ?_|refine zI M ?_)
   refine L_no M M (pv_lss M M) (by omega) ?_
   refine zdS ?_
   refine zX M M (zQ M M M) (resolving_spec w0 X b tb c _ n hS9 hZ (by omega) d2 hn2 f1 f2 g1 g2 q1) ?_
   rintro _ _ hA
   repeat (refine zE ?_)
   exact ⟨[],_,_,trivial,hA,yJ.out⟩
 ·rw [status_known hg,show mapI c.ended x.txn=v by unfold mapI; rw [hg]; rfl]
  repeat (first|refine zF ?_|refine zR ?_|refine zB ?_|refine zE ?_|refine zK M M M ?_|refine zJ M ?_)
  refine zX M M (zQ M M M) (came_spec w0 v) ?_
  rintro _ _ ⟨rfl,rfl⟩
  skip
  refine zX M M (zQ M M M) (coding_spec w0 X b tb c _ hS9 (cameF v)) ?_
  rintro _ _ hA
  repeat (refine zE ?_)
  exact ⟨[],_,_,trivial,hA.after,yJ.out⟩
theorem moving_spec (hS:CliT w0 X b tb c S) (hZ:Sz n c) (hn:n+100≤100000000) (hF:Fine c) (hx:CalSz x) :
  Spec Tryz.prog w0 79 [pB b,.agg (cellsX x dv).toArray] (X+S) (fun r h'=>After w0 X b tb (moveF c x) h'):=by
 have hS9:=id hS
 have hck:=check21_spec w0 X (planOp x) _ (rd_bare w0 X _ rfl M M M) (by exact ⟨i64_0,i64_0,i64_0,i64_0,i64_0,hx.lo,hx.hi,i64_0,i64_0,i64_0,hx.src,hx.dst⟩) (by simp [planOp])
 have hoking:=fun (Y:Hp) (hS':CliT w0 Y b tb c S) (p q:Nat) (hp:At w0 Y p 0 [pB b]) (hq:At w0 Y q 0 (cellsX x dv))=>oking_spec w0 Y b tb c S n hS' hZ.bd (by omega) 0 ⟨by omega,by omega⟩ (planOp x) _ (rd_bare w0 _ _ rfl M M M) 161 [pB p,pB q].toArray (.plan x) (fun Z p' q' h1 h2=>⟨p',q',p,q,dv,rfl,h1,h2,hp.mono M,hq.mono M⟩)
 obtain ⟨⟨vmem,vr0,vsets,vmr,vg,ve,vd,vrq,vop,vow,vw,vco,vou,van⟩,ps,hG,hE,hD,hR,hT,hK,hO,P,rfl⟩:=hS
 have hvp:vop=ptrIf c.opn tb:=P.opn
 obtain ⟨amm,cmm,hvm⟩:=P.mem
 simp only at hvm
 subst hvm
 unfold moveF
 generalize hcf:checkF (planOp x)=ck at *
 refine zN Tryz.func79 M Tryz.ntmps79 Tryz.results79 M fun fr=>?_
 repeat (first|refine zF ?_|refine zB ?_|refine zE ?_|refine zY M M M M M ?_|refine L_ld M M M M M ?_|refine L_ldA M (vs:=[_,_,_,_,_,_,_,_,_,_,_,_,_,_,_,_,_]) M M M M M ?_|refine L_build (vs:=[_,_,_,_,_]) (cells:=[_,_,_,_,_,_,_,_,_,_,_,_,_,_,_,_,_]) M M M M ?_|refine L_stA M (vs:=[_,_,_,_,_,_,_,_,_,_,_,_,_,_,_,_,_]) M M M M (c':=[_,_,_,_,_,_,_,_,_,_,_,_,_,_,_,_,_]) M M ?_|refine L_box M (c:=[_]) M M M (fun _=>?_)|refine L_box M (c:=[_,_,_,_,_,_,_,_,_,_,_,_,_]) M M M (fun _=>?_)|refine L_alloc (c:=[_,_,_,_,_,_,_,_,_,_,_,_,_,_,_,_,_]) M M M (fun _=>?_))
 rename_i b2 b3 b4
 refine zX M M (zQ M M M) hck ?_
 rintro _ _ ⟨rfl,rfl⟩
 cases hop:c.opn
 rotate_left
 ·rw [hop] at hvp
  simp only [ptrIf,cond_true] at hvp
  subst hvp
  rw [if_pos M]
  refine zbX ?_
  refine yG M M (pv_neq_nilp M M) ?_
  refine zbZ ?_
  refine zX M M (zQ M M M) (coding_spec w0 X b tb c _ hS9 12) ?_
  rintro _ _ hA
  repeat (refine zE ?_)
  exact ⟨[],_,_,trivial,hA.after,yJ.out⟩
 rw [hop] at hvp
 simp only [ptrIf,cond_false] at hvp
 subst hvp
 rw [if_neg (by simp)]
 refine zbX ?_
 refine yG M M (pv_neq_nilp M M) ?_
 refine zaA ?_
 refine yF M M (pv_neq M M) (fun h2=>?_) (fun h2=>?_)
 ·rw [if_pos h2]
  refine zbZ ?_
  refine zX M M (zQ M M M) (coding_spec w0 X b tb c _ hS9 ck) ?_
  rintro _ _ hA
  repeat (refine zE ?_)
  exact ⟨[],_,_,trivial,hA.after,yJ.out⟩
 rw [if_neg h2]
 refine zcC ?_
 refine yB [] [0,1,2,3,4,5,6,7,8,9,10,11,12] (by kernel_rfl) M (by kernel_rfl) (by kernel_rfl) ?_
 refine zbR ?_
 refine yD M M M M (pv_max M M) ?_
 rw [show (if x.src<x.dst then x.dst else x.src)=max x.src x.dst by split<;>omega]
 refine zdV ?_
 refine W_dec M M M M (pv_geq M M) (fun h3=>?_) (fun h3=>?_)
 ·rw [if_pos (by omega)]
  refine zaD ?_
  repeat (first|refine zB ?_|refine L_ld M M M M M ?_|refine zJ M ?_)
  refine zX M M (zQ M M M) (coding_spec w0 X b tb c _ hS9 27) ?_
  rintro _ _ hA
  repeat (refine zE ?_)
  exact ⟨[],_,_,trivial,hA.after,yJ.out⟩
 rw [if_neg (by omega)]
 refine zaD ?_
 repeat (first|refine zB ?_|refine L_ld M M M M M ?_|refine zI M ?_|refine L_ldA M (vs:=[_,_,_,_,_,_,_,_,_,_,_,_,_,_,_,_,_]) M M M M M ?_|refine L_clo M M M ?_)
 have hA2:At w0 (X+(pt b2 (.cells [pB b].toArray 24 (0,0))+pt b3 (.cells (cellsX x dv).toArray 41 (0,0)))) b2 0 [pB b]:=at_box
 have hA4:At w0 (X+(pt b2 (.cells [pB b].toArray 24 (0,0))+pt b3 (.cells (cellsX x dv).toArray 41 (0,0)))) b3 0 (cellsX x dv):=at_box
 have hS3:=hS9.mono (L:=X+(pt b2 (.cells [pB b].toArray 24 (0,0))+pt b3 (.cells (cellsX x dv).toArray 41 (0,0)))) M
 refine zX M M (zQ M M M) (hoking _ hS3 b2 b3 hA2 hA4) ?_
 rintro _ _ hA
 repeat (refine zE ?_)
 exact ⟨[],_,_,trivial,hA.trans,yJ.out⟩
end
theorem find_idx {α:Type} (p:α→Bool) (l:List α):(idxF p l=-1∧l.find? p=none)∨∃ (k:Nat) (hk:k<l.length),idxF p l=k∧l.find? p=some l[k]:=by
 rcases idxF_cases p l with ⟨h1,h2⟩|⟨k,hk,h1,h2,h3⟩
 ·exact .inl ⟨h1,List.find?_eq_none.2 (fun x hx=>by rw [h2 x hx]; simp)⟩
 ·exact .inr ⟨k,hk,h1,find_hit hk h2 h3⟩
section
variable {c:Cl} {x:Cal}
theorem reading_shut (h:c.opn=false):readingF c x=codeF c 22:=by unfold readingF; rw [if_pos h]
theorem reading_off (h:c.opn=true) (hd:¬ (0≤x.block∧x.block<64)):readingF c x=codeF c 20:=by unfold readingF; rw [if_neg (by rw [h]; simp),if_pos hd]
theorem reading_w (h:c.opn=true) (hd:0≤x.block∧x.block<64) {w:Wr} (hw:c.cur.writes.find? (isW x.block)=some w):readingF c x=sayF c ⟨0,0,w.data⟩:=by
 unfold readingF; rw [if_neg (by rw [h]; simp),if_neg (fun k=>k hd),hw]
theorem reading_r (h:c.opn=true) (hd:0≤x.block∧x.block<64) (hw:c.cur.writes.find? (isW x.block)=none) {r:Bof} (hr:c.cur.reads.find? (isBof x.block)=some r):readingF c x=sayF c ⟨0,0,r.data⟩:=by
 unfold readingF; rw [if_neg (by rw [h]; simp),if_neg (fun k=>k hd),hw,hr]
theorem reading_many (h:c.opn=true) (hd:0≤x.block∧x.block<64) (hw:c.cur.writes.find? (isW x.block)=none) (hr:c.cur.reads.find? (isBof x.block)=none) (hl:16≤c.cur.reads.length):readingF c x=codeF c 17:=by
 unfold readingF; rw [if_neg (by rw [h]; simp),if_neg (fun k=>k hd),hw,hr]; simp only [if_pos hl]
theorem reading_map (h:c.opn=true) (hd:0≤x.block∧x.block<64) (hw:c.cur.writes.find? (isW x.block)=none) (hr:c.cur.reads.find? (isBof x.block)=none) (hl:¬ 16≤c.cur.reads.length):readingF c x=mappedF c (.read x):=by
 unfold readingF; rw [if_neg (by rw [h]; simp),if_neg (fun k=>k hd),hw,hr]; simp only [if_neg hl]
theorem writing_shut {d:List Bt} (h:c.opn=false):writingF c x d=codeF c 22:=by unfold writingF; rw [if_pos h]
theorem writing_to {d:List Bt} (h:c.opn=true) {l:List Wr} {e:Int} (hw:writeF c.cur.writes x.block d=(l,e)):writingF c x d=codeF { c with cur:={ c.cur with writes:=l } } e:=by unfold writingF; rw [if_neg (by rw [h]; simp),hw]
end
section
variable (w0:World) (X:Hp) (b tb:Nat) (c:Cl) (S:Hp) (n:Nat)
variable (x:Cal) (dv:Value)
theorem readB_spec (r:Bof) (a:Option Addr) (cp bx:Nat) (h1:At w0 X bx 0 (cellsX x dv)) :
  Spec Tryz.prog w0 143 [.agg [.int .i64 r.block,.slice a r.data.length cp].toArray,pB bx] X (fun v h'=>v=.bool (isBof x.block r)∧X=h'):=by
 refine zN Tryz.func143 M Tryz.ntmps143 Tryz.results143 M fun fr=>?_
 repeat (first|refine zF ?_|refine zB ?_|refine zE ?_|refine zK M M M ?_|refine zY M M M M M ?_|refine L_ld M M M M M ?_|refine L_atf M (by assumption) M M M M ?_|refine L_box M (c:=[_,_]) M M M (fun _=>?_))
 refine yG M M (pv_eql M M) ?_
 refine zaE ?_
 exact ⟨[_],X,_,⟨rfl,trivial⟩,⟨rfl,rfl⟩,yJ.out⟩
theorem readW_spec (r:Wr) (a:Option Addr) (cp bx:Nat) (h1:At w0 X bx 0 (cellsX x dv)) :
  Spec Tryz.prog w0 141 [.agg [.int .i64 r.block,.slice a r.data.length cp].toArray,pB bx] X (fun v h'=>v=.bool (isW x.block r)∧X=h'):=by
 refine zN Tryz.func141 M Tryz.ntmps141 Tryz.results141 M fun fr=>?_
 repeat (first|refine zF ?_|refine zB ?_|refine zE ?_|refine zK M M M ?_|refine zY M M M M M ?_|refine L_ld M M M M M ?_|refine L_atf M (by assumption) M M M M ?_|refine L_box M (c:=[_,_]) M M M (fun _=>?_))
 refine yG M M (pv_eql M M) ?_
 refine zaE ?_
 exact ⟨[_],X,_,⟨rfl,trivial⟩,⟨rfl,rfl⟩,yJ.out⟩
theorem readings_spec (hS:CliT w0 X b tb c S) (hZ:Sz n c) (hn:n+100≤100000000) (hF:Fine c) :
  Spec Tryz.prog w0 71 [pB b,.agg (cellsX x dv).toArray] (X+S) (fun r h'=>After w0 X b tb (readingF c x) h'):=by
 have hS9:=id hS
 have hml:=hZ.m.len
 have hal:=hZ.cur.asked
 have hrl:=hZ.cur.reads
 have hwl:=hZ.cur.writes
 obtain ⟨⟨vmem,vr0,vsets,vmr,vg,ve,vd,vrq,vop,vow,vw,vco,vou,van⟩,ps,hG,hE,hD,hR,hT,hK,hO,P,rfl⟩:=hS
 have hvp:vop=ptrIf c.opn tb:=P.opn
 refine zN Tryz.func71 M Tryz.ntmps71 Tryz.results71 M fun fr=>?_
 cases hop:c.opn
 ·rw [hop] at hvp
  simp only [ptrIf,cond_false] at hvp
  subst hvp
  rw [reading_shut hop]
  repeat (first|refine zF ?_|refine zB ?_|refine zE ?_|refine zK M M M ?_|refine zY M M M M M ?_|refine L_ld M M M M M ?_|refine L_box M (c:=[_]) M M M (fun _=>?_)|refine L_box M (c:=[_,_,_,_,_,_,_,_,_,_,_,_,_]) M M M (fun _=>?_))
  refine yG M M (pv_eql_nilp M M) ?_
  repeat (first|refine zF ?_|refine zB ?_|refine zE ?_|refine L_ld M M M M M ?_|refine zJ M ?_)
  refine zX M M (zQ M M M) (coding_spec w0 X b tb c _ hS9 22) ?_
  rintro _ _ hA
  refine zbI ?_
  exact ⟨[],_,_,trivial,hA.after,yJ.out⟩
 rw [hop] at hvp
 simp only [ptrIf,cond_true] at hvp
 subst hvp
 have hT2:TxnAt w0 X tb c.cur hT:=P.txn.elim id fun h=>by rw [h.1] at hop; cases hop
 obtain ⟨vr,va,vw',ap,cp,hr,ha,hw,rfl,k1,k2,k3,k4⟩:=id hT2
 obtain ⟨ar,cr,rfl⟩:=k1.shape
 obtain ⟨aw,cw,rfl⟩:=k3.shape
 repeat (first|refine zF ?_|refine zB ?_|refine zE ?_|refine zK M M M ?_|refine zY M M M M M ?_|refine L_ld M M M M M ?_|refine L_box M (c:=[_]) M M M (fun _=>?_)|refine L_box M (c:=[_,_,_,_,_,_,_,_,_,_,_,_,_]) M M M (fun _=>?_))
 rename_i b2 b3
 refine yG M M (pv_eql_nilp M M) ?_
 repeat (first|refine zF ?_|refine zB ?_|refine zE ?_|refine zK M M M ?_|refine zY M M M M M ?_|refine L_ld M M M M M ?_|refine zP ?_|refine zI M ?_|refine L_clo M M M ?_)
 refine zX M M (zQ M M M) (indexFuncWr_spec w0 (X+hw+pt b3 (.cells (cellsX x dv).toArray 41 (0,0))) _ c.cur.writes 141 [pB b3] (isW x.block) k3.rd (by omega) (fun Y w e hx he=>by
  obtain ⟨a1,c1,rfl,-⟩:=he
  exact readW_spec w0 _ x dv w a1 c1 b3 at_box)) ?_
 rintro _ _ ⟨rfl,rfl⟩
 repeat (first|refine zF ?_|refine zB ?_|refine zE ?_|refine zK M M M ?_|refine zY M M M M M ?_|refine L_ld M M M M M ?_|refine L_clo M M M ?_)
 refine zX M M (zQ M M M) (indexFuncBof_spec w0 (X+hr+pt b3 (.cells (cellsX x dv).toArray 41 (0,0))) _ c.cur.reads 143 [pB b3] (isBof x.block) k1.rd (by omega) (fun Y w e hx he=>by
  obtain ⟨a1,c1,rfl,-⟩:=he
  exact readB_spec w0 _ x dv w a1 c1 b3 at_box)) ?_
 rintro _ _ ⟨rfl,rfl⟩
 refine zbX ?_
 refine zX M M (zQ M M M) (inDisk_spec w0 x.block) ?_
 rintro _ _ ⟨rfl,rfl⟩
 by_cases hd:0≤x.block∧x.block<64
 rotate_left
 ·rw [reading_off hop hd,decide_eq_false hd]
  refine yG M M (pv_not M) ?_
  refine zbZ ?_
  refine zX M M (zQ M M M) (coding_spec w0 X b tb c _ hS9 20) ?_
  rintro _ _ hA
  repeat (refine zE ?_)
  exact ⟨[],_,_,trivial,hA.after,yJ.out⟩
 rw [decide_eq_true hd]
 refine yG M M (pv_not M) ?_
 rcases find_idx (isW x.block) c.cur.writes with ⟨i1,i2⟩|⟨k,hk,i1,i2⟩
 rotate_left
 ·rw [reading_w hop hd i2,i1]
  obtain ⟨bk,ok,rfl,e,hre,hat⟩:=OwL.at k3 hk
  obtain ⟨a4,c4,rfl,hrd⟩:=id hre
  have hdl:=hwl.2.1 _ (List.getElem_mem hk)
  clear i2
  generalize c.cur.writes[k]=w at *
  refine zaA ?_
  refine L_yes M M (pv_geq M M) (by omega) ?_
  refine zdC ?_
  refine yB [12,14] [0,1,2,3,4,5,6,7,8,9,10,11,12,13,14] (by kernel_rfl) M (by kernel_rfl) (by kernel_rfl) ?_
  refine zcJ ?_
  refine W_call M M M M (zQ M M M) (cloneBB_spec w0 X _ _ hrd (by omega)) (Kept.all _) ?_
  rintro vc _ ⟨hc,hcl,rfl⟩
  obtain ⟨a5,c5,rfl⟩:=hcl.shape
  refine ⟨zka,?_⟩
  repeat (refine yD M M M M (pv_build (vs:=[_]) (cells:=[_,_,_]) M M) ?_)
  refine W_call M M M M (zQ M M M) (saying_spec w0 (X+hc) b tb c _ (hS9.mono M) ⟨0,0,w.data⟩ a5 c5 (hcl.plainB.rd (X:=0) (R:=X))) (.drop (by kernel_rfl) (.drop (by kernel_rfl) (.drop (by kernel_rfl) (.drop (by kernel_rfl) (.drop (by kernel_rfl) .nil))))) ?_
  rintro _ _ hA
  refine ⟨trivial,?_⟩
  repeat (refine yI ?_)
  skip
  exact ⟨[],_,_,trivial,hA.after.trans,yJ.out⟩
 rw [i1]
 refine zaA ?_
 refine L_no M M (pv_geq M M) (by decide) ?_
 rcases find_idx (isBof x.block) c.cur.reads with ⟨j1,j2⟩|⟨k,hk,j1,j2⟩
 rotate_left
 ·rw [reading_r hop hd i2 j2,j1]
  obtain ⟨bk,ok,rfl,e,hre,hat⟩:=OwL.at k1 hk
  obtain ⟨a4,c4,rfl,hrd⟩:=id hre
  have hdl:=hrl.2 _ (List.getElem_mem hk)
  clear j2
  generalize c.cur.reads[k]=w at *
  refine zaA ?_
  refine L_yes M M (pv_geq M M) (by omega) ?_
  refine zdC ?_
  refine yB [12,14] [0,1,2,3,4,5,6,7,8,9,10,11,12,13,14] (by kernel_rfl) M (by kernel_rfl) (by kernel_rfl) ?_
  refine zcJ ?_
  refine W_call M M M M (zQ M M M) (cloneBB_spec w0 X _ _ hrd (by omega)) (Kept.all _) ?_
  rintro vc _ ⟨hc,hcl,rfl⟩
  obtain ⟨a5,c5,rfl⟩:=hcl.shape
  refine ⟨zka,?_⟩
  repeat (refine yD M M M M (pv_build (vs:=[_]) (cells:=[_,_,_]) M M) ?_)
  refine W_call M M M M (zQ M M M) (saying_spec w0 (X+hc) b tb c _ (hS9.mono M) ⟨0,0,w.data⟩ a5 c5 (hcl.plainB.rd (X:=0) (R:=X))) (.drop (by kernel_rfl) (.drop (by kernel_rfl) (.drop (by kernel_rfl) (.drop (by kernel_rfl) (.drop (by kernel_rfl) .nil))))) ?_
  rintro _ _ hA
  refine ⟨trivial,?_⟩
  repeat (refine yI ?_)
  skip
  exact ⟨[],_,_,trivial,hA.after.trans,yJ.out⟩
 rw [j1]
 refine zaA ?_
 refine L_no M M (pv_geq M M) (by decide) ?_
 refine zcB ?_
 refine yF M M (pv_geq M M) (fun hl=>?_) (fun hl=>?_)
 ·rw [reading_many hop hd i2 j2 (by omega)]
  refine zbZ ?_
  refine zX M M (zQ M M M) (coding_spec w0 X b tb c _ hS9 17) ?_
  rintro _ _ hA
  repeat (refine zE ?_)
  exact ⟨[],_,_,trivial,hA.after,yJ.out⟩
 rw [reading_map hop hd i2 j2 (by omega)]
 repeat (first|refine zB ?_|refine zE ?_|refine zK M M M ?_|refine L_ld M M M M M ?_|refine zI M ?_|refine L_clo M M M ?_)
 have hA2:At w0 (X+(pt b2 (.cells [pB b].toArray 24 (0,0))+pt b3 (.cells (cellsX x dv).toArray 41 (0,0)))) b2 0 [pB b]:=at_box
 have hA4:At w0 (X+(pt b2 (.cells [pB b].toArray 24 (0,0))+pt b3 (.cells (cellsX x dv).toArray 41 (0,0)))) b3 0 (cellsX x dv):=at_box
 have hS3:=hS9.mono (L:=X+(pt b2 (.cells [pB b].toArray 24 (0,0))+pt b3 (.cells (cellsX x dv).toArray 41 (0,0)))) M
 refine zX M M (zQ M M M) (mapping_spec w0 _ b tb c _ hS3 (.read x) 147 [pB b2,pB b3] ⟨b2,b3,dv,rfl,hA2,hA4⟩ (fun _=>readRun_spec w0 _ b tb c _ n hS3 hZ.bd (by omega) hF (by omega) hop (by omega) x dv b2 b3 hA2 hA4)) ?_
 rintro _ _ hA
 repeat (refine zE ?_)
 exact ⟨[],_,_,trivial,hA.trans,yJ.out⟩
theorem writings_spec (D:Hp) (d:List Bt) (da:Option Addr) (dc:Nat) (hd:RdL w0 D (.slice da d.length dc) d) (hdl:d.length≤1000000000) (hS:CliT w0 X b tb c S) (hZ:Sz n c) (hn:n+100≤100000000) (hF:Fine c) :
  Spec Tryz.prog w0 72 [pB b,.agg (cellsX x (.slice da d.length dc)).toArray] (X+S+D) (fun r h'=>∃ h1,After w0 X b tb (writingF c x d) h1∧h1+D=h'):=by
 have hS9:=id hS
 obtain ⟨h8,-,hs⟩:=hZ.cur.writes
 obtain ⟨⟨vmem,vr0,vsets,vmr,vg,ve,vd,vrq,vop,vow,vw,vco,vou,van⟩,ps,hG,hE,hD,hR,hT,hK,hO,P,rfl⟩:=hS
 have hvp:vop=ptrIf c.opn tb:=P.opn
 refine zN Tryz.func72 M Tryz.ntmps72 Tryz.results72 M fun fr=>?_
 cases hop:c.opn
 ·rw [hop] at hvp
  simp only [ptrIf,cond_false] at hvp
  subst hvp
  rw [writing_shut hop]
  repeat (first|refine zF ?_|refine zB ?_|refine zE ?_|refine zK M M M ?_|refine zY M M M M M ?_|refine L_ld M M M M M ?_|refine L_box M (c:=[_,_,_,_,_,_,_,_,_,_,_,_,_]) M M M (fun _=>?_))
  refine yG M M (pv_eql_nilp M M) ?_
  refine zaY ?_
  refine zX M M (zQ M M M) (coding_spec w0 X b tb c _ hS9 22) ?_
  rintro _ _ hA
  refine zbI ?_
  exact ⟨[],_,_,trivial,⟨_,hA.after,rfl⟩,yJ.out⟩
 rw [hop] at hvp
 simp only [ptrIf,cond_true] at hvp
 subst hvp
 have hT2:TxnAt w0 X tb c.cur hT:=P.txn.elim id fun h=>by rw [h.1] at hop; cases hop
 obtain ⟨vr,va,vw',ap,cp,hr,ha,hw,rfl,k1,k2,k3,k4⟩:=id hT2
 generalize hws:c.cur.writes=ws at *
 generalize hnb:x.block=m at *
 obtain ⟨es,hrow,hall⟩:=id k3
 have hes:=hall.length
 have hwl:∀ i,BsAt (fun x:Wr=>decide (x.block - m<0)) ws i→i≤es.length:=fun i hb=>by have:=hb.1; omega
 obtain ⟨af,cf,rfl⟩:=k3.shape
 have hsp:=search_spec w0 (X+hw) ws (.slice af ws.length cf) m k3.rd0 h8 hs
 have fin0:∀ {e:Int},writeF ws m d=(ws,e)→writingF c x d=codeF c e:=by
  intro e he
  rw [writing_to hop (l:=ws) (e:=e) (by rw [hws,hnb]; exact he),← hws]
 repeat (first|refine zF ?_|refine zB ?_|refine zE ?_|refine zK M M M ?_|refine zY M M M M M ?_|refine L_ld M M M M M ?_|refine L_box M (c:=[_,_,_,_,_,_,_,_,_,_,_,_,_]) M M M (fun _=>?_))
 refine yG M M (pv_eql_nilp M M) ?_
 refine zcY ?_
 rw [hnb]
 refine zX M M (zQ M M M) hsp ?_
 rintro _ _ ⟨i,rfl,hbs,rfl⟩
 refine zbX ?_
 refine zX M M (zQ M M M) (inDisk_spec w0 m) ?_
 rintro _ _ ⟨rfl,rfl⟩
 by_cases hmd:0≤m∧m<64
 rotate_left
 ·rw [fin0 (e:=20) (by unfold writeF; rw [if_pos hmd]),decide_eq_false hmd]
  refine yG M M (pv_not M) ?_
  refine zaU ?_
  refine zX M M (zQ M M M) (coding_spec w0 X b tb c _ hS9 20) ?_
  rintro _ _ hA
  repeat (refine zE ?_)
  exact ⟨[],_,_,trivial,⟨_,hA.after,rfl⟩,yJ.out⟩
 rw [decide_eq_true hmd]
 refine yG M M (pv_not M) ?_
 refine zcB ?_
 refine yF M M (pv_neq M M) (fun h4=>?_) (fun h4=>?_)
 ·rw [fin0 (e:=21) (by unfold writeF; rw [if_neg (fun hx=>hx hmd),if_pos (by omega)])]
  refine zaU ?_
  refine zX M M (zQ M M M) (coding_spec w0 X b tb c _ hS9 21) ?_
  rintro _ _ hA
  repeat (refine zE ?_)
  exact ⟨[],_,_,trivial,⟨_,hA.after,rfl⟩,yJ.out⟩
 have hd4:d.length=4:=by omega
 have hwf:writeF ws m d=if ws.any (isW m)=false∧8≤ws.length then (ws,17) else (setW ws m d,0):=by unfold writeF; rw [if_neg (fun hx=>hx hmd),if_neg (by omega)]
 refine zaA ?_
 cases hfd:foundAt (fun x:Wr=>x.block - m) ws i
 ·obtain ⟨hlo,hhi,hno⟩:=bs_missed (key:=Wr.block) hs hbs hfd
  have hany:ws.any (isW m)=false:=by
   rw [List.any_eq_false]; intro x hx hx2
   exact absurd (List.find?_eq_none.1 hno x hx) (by simpa [isW] using hx2)
  refine zcF ?_
  refine yF M M (pv_geq M M) (fun h9=>?_) (fun h9=>?_)
  ·rw [fin0 (e:=17) (by rw [hwf,if_pos ⟨hany,by omega⟩])]
   refine zaU ?_
   refine zX M M (zQ M M M) (coding_spec w0 X b tb c _ hS9 17) ?_
   rintro _ _ hA
   repeat (refine zE ?_)
   exact ⟨[],_,_,trivial,⟨_,hA.after,rfl⟩,yJ.out⟩
  rw [writing_to hop (l:=setW ws m d) (e:=0) (by rw [hws,hnb,hwf,if_neg (fun hx=>by omega)])]
  refine zcC ?_
  refine hold_drawV [4,6,7] [0,1,2,3,4,5,6,7] 6 7 [.int .i64 0,.slice none 0 0] 44 (by kernel_rfl) M (by kernel_rfl) (by kernel_rfl) (by kernel_rfl) ?_
  repeat (first|refine V_pure M (zZ M M M) (fun _=>zZ M M M) M M M M ?_|refine V_load M M (fun _=>rfl) (zG M (zS M)) M M M M ?_)
  refine V_call M M M M M (zQ M M M) (fun _=>zQ M M M) (cloneBB_spec w0 D _ d hd (by omega)) (Kept.all _) M M M M ?_
  rintro vc _ ⟨hc,hcl,rfl⟩
  obtain ⟨a4,c4,rfl⟩:=hcl.shape
  have hnew:Rep.rd w0 (X+hc) (⟨m,d⟩:Wr) [.int .i64 m,.slice a4 d.length c4]:=⟨a4,c4,rfl,hcl.plainB.rd (X:=0) (R:=X)⟩
  have hall':=hall.mono (S:=Rep.rd w0 (X+hc)) (fun x e he=>Rep.mono M he)
  refine ⟨zka,?_⟩
  repeat (refine V_pure M (pv_build (vs:=[_,_]) (cells:=[_,_]) M M) (fun _=>pv_build (vs:=[_,_]) (cells:=[_,_]) M M) M M M M ?_)
  refine V_now M M M M (fun b7=>?_)
  refine W_eff M M M M (ev_storeA (vs:=[_,_]) M M M M (c:=[_,_]) (Nat.le_of_ble_eq_true M) (c':=[_,_]) M) (Kept.all _) ?_
  rintro _ _ rfl
  refine ⟨zka,?_⟩
  repeat (refine yI ?_)
  refine zaA ?_
  refine yB [7,8,11] [0,1,2,3,4,5,6,7,8,9,10,11] (by kernel_rfl) M (by kernel_rfl) (by kernel_rfl) ?_
  refine zfC ?_
  refine W_eff M M M M (ev_buildSlice (vs:=[_]) (cells:=[_,_]) M M M M) (Kept.all _) ?_
  rintro _ _ ⟨bn,rfl,rfl⟩
  refine ⟨zka,?_⟩
  skip
  refine W_call M M M M (zQ M M M) (insertAtWr_spec w0 es _ hw bn i _ hrow (hwl i hbs) hall.ones (Rep.len hnew) (Rep.one hnew) (by omega)) (Kept.all _) ?_
  rintro vn hn2 hrown
  obtain ⟨an,cn,rfl⟩:=hrown.shape
  refine ⟨zka,?_⟩
  refine zaN ?_
  refine W_eff M M M M (ev_store M M M M M (c':=(_::_::_::_::_::_::_::_::[])) M) (Kept.all _) ?_
  rintro _ _ rfl
  refine ⟨zka,?_⟩
  repeat (refine yI ?_)
  refine zbQ ?_
  have hset:OwL w0 (X+hc) (setW ws m d) _ hn2:=⟨_,hrown,by
   unfold setW
   rw [← hlo,← hhi]
   exact (hall'.take i).append (ys:=_::_) ⟨hnew,hall'.drop i⟩⟩
  have P2:=P.mono (L:=X+hc) (R:=hc) M
  have hT3:TxnAt w0 (X+hc) tb { c.cur with writes:=setW ws m d } _:=⟨vr,va,_,ap,cp,hr,ha,hn2,rfl,k1.mono M,k2,hset,k4.mono M⟩
  have hP3:Parts w0 (X+hc) b { c with cur:={ c.cur with writes:=setW ws m d } } ⟨vmem,vr0,vsets,vmr,vg,ve,vd,vrq,pB tb,vow,vw,vco,vou,van⟩ tb ps hG hE hD hR _ hK hO :=
   Parts.mk P2.mem P2.rngs0 P2.sets P2.mr P2.guess P2.ended P2.dbts P2.reqs P2.opn P2.own (.inl hT3) P2.waits P2.coord P2.out P2.ansd
  refine zX M M (zQ M M M) (coding_spec w0 (X+hc) b tb { c with cur:={ c.cur with writes:=setW ws m d } } _ ⟨_,ps,hG,hE,hD,hR,_,hK,hO,hP3,rfl⟩ 0) ?_
  rintro _ _ hA
  repeat (refine zE ?_)
  exact ⟨[],_,_,trivial,⟨_,hA.after.trans,rfl⟩,yJ.out⟩
 ·obtain ⟨hx,hk,hlo,hhi,hfi⟩:=bs_found (key:=Wr.block) hs hbs hfd
  have hany:ws.any (isW m)=true:=List.any_eq_true.2 ⟨_,List.getElem_mem hx,by simpa [isW] using hk⟩
  rw [writing_to hop (l:=setW ws m d) (e:=0) (by rw [hws,hnb,hwf,if_neg (fun hx=>by rw [hany] at hx; exact absurd hx.1 (by simp))])]
  have hsw:setW ws m d=ws.set i ⟨m,d⟩:=by
   unfold setW
   rw [← hlo,← hhi,List.set_eq_take_append_cons_drop,if_pos hx]
  have hxe:i<es.length:=by omega
  rcases hrow with ⟨hr1,⟨ad,_,hnil,_⟩|⟨bk,cap,spare,hv,rfl,hr2,hr3,hr4⟩⟩
  ·rw [hnil] at hxe; exact absurd hxe (by simp)
  simp only [Value.slice.injEq] at hv
  obtain ⟨rfl,_,rfl⟩:=hv
  have hr1:∀ x∈es,x.length=2:=hr1
  have hr4:spare.length=(cf - es.length)*2:=hr4
  repeat (first|refine zF ?_|refine zE ?_|refine zK M M M ?_|refine L_skip M M ?_|refine zI M ?_)
  refine hold_drawV [4,6,7] [0,1,2,3,4,5,6,7] 6 7 [.int .i64 0,.slice none 0 0] 44 (by kernel_rfl) M (by kernel_rfl) (by kernel_rfl) (by kernel_rfl) ?_
  repeat (first|refine V_pure M (zZ M M M) (fun _=>zZ M M M) M M M M ?_|refine V_load M M (fun _=>rfl) (zG M (zS M)) M M M M ?_)
  refine V_call M M M M M (zQ M M M) (fun _=>zQ M M M) (cloneBB_spec w0 D _ d hd (by omega)) (Kept.all _) M M M M ?_
  rintro vc _ ⟨hc,hcl,rfl⟩
  obtain ⟨a4,c4,rfl⟩:=hcl.shape
  have hnew:Rep.rd w0 (X+hc) (⟨m,d⟩:Wr) [.int .i64 m,.slice a4 d.length c4]:=⟨a4,c4,rfl,hcl.plainB.rd (X:=0) (R:=X)⟩
  have hall':=hall.mono (S:=Rep.rd w0 (X+hc)) (fun x e he=>Rep.mono M he)
  refine ⟨zka,?_⟩
  repeat (refine V_pure M (pv_build (vs:=[_,_]) (cells:=[_,_]) M M) (fun _=>pv_build (vs:=[_,_]) (cells:=[_,_]) M M) M M M M ?_)
  refine V_now M M M M (fun b7=>?_)
  refine W_eff M M M M (ev_storeA (vs:=[_,_]) M M M M (c:=[_,_]) (Nat.le_of_ble_eq_true M) (c':=[_,_]) M) (Kept.all _) ?_
  rintro _ _ rfl
  refine ⟨zka,?_⟩
  repeat (refine yI ?_)
  repeat (first|refine zF ?_|refine zB ?_|refine zE ?_|refine zK M M M ?_|refine zJ M ?_|refine L_idx M M (by omega) M M ?_|refine L_ldA M (vs:=[_,_]) M M M M M ?_)
  refine L_eff M M (ev_storeA (vs:=[_,_]) M M M M (c:=es.flatten++spare) (by have hfl:=length_flat hr1; simp only [List.length_append,hfl,List.length_cons,List.length_nil]; omega) (flat_setW hr1 M hxe)) ?_
  rintro _ _ rfl
  refine zcN ?_
  have hset:OwL w0 (X+hc) (setW ws m d) (.slice (some ⟨bk,0,none⟩) ws.length cf) (pt bk (.cells ((es.set i [.int .i64 m,.slice a4 d.length c4]).flatten++spare).toArray 44 (0,0))):=by
   refine ⟨es.set i [.int .i64 m,.slice a4 d.length c4],?_,by rw [hsw]; exact hall'.set i hnew⟩
   have:=isRow_block (E:=44) (b:=bk) (cap:=cf) (spare:=spare) (size:=2) (xs:=es.set i [.int .i64 m,.slice a4 d.length c4]) (fun x hx=>(List.mem_or_eq_of_mem_set hx).elim (hr1 x) (fun e=>by rw [e]; rfl)) (by simpa using hr2) hr3 (by simpa using hr4)
   rwa [List.length_set,hes] at this
  have P2:=P.mono (L:=X+hc) (R:=hc) M
  have hT3:TxnAt w0 (X+hc) tb { c.cur with writes:=setW ws m d } _:=⟨vr,va,_,ap,cp,hr,ha,_,rfl,k1.mono M,k2,hset,k4.mono M⟩
  have hP3:Parts w0 (X+hc) b { c with cur:={ c.cur with writes:=setW ws m d } } ⟨vmem,vr0,vsets,vmr,vg,ve,vd,vrq,pB tb,vow,vw,vco,vou,van⟩ tb ps hG hE hD hR _ hK hO :=
   Parts.mk P2.mem P2.rngs0 P2.sets P2.mr P2.guess P2.ended P2.dbts P2.reqs P2.opn P2.own (.inl hT3) P2.waits P2.coord P2.out P2.ansd
  refine zX M M (zQ M M M) (coding_spec w0 (X+hc) b tb { c with cur:={ c.cur with writes:=setW ws m d } } _ ⟨_,ps,hG,hE,hD,hR,_,hK,hO,hP3,rfl⟩ 0) ?_
  rintro _ _ hA
  repeat (refine zE ?_)
  exact ⟨[],_,_,trivial,⟨_,hA.after.trans,rfl⟩,yJ.out⟩
end
theorem doingK1_spec (w0:World) (b:Nat):Spec Tryz.prog w0 31 [pB b,.int .i64 1] 0 (fun r h'=>r=.func (.func 70) #[pB b] #[]∧0=h'):=by
 refine zN Tryz.func31 M Tryz.ntmps31 Tryz.results31 M fun fr=>?_
 refine zaM ?_
 refine L_yes M M (pv_eql M M) (by decide) ?_
 refine zaB ?_
 exact ⟨[_],0,_,⟨rfl,trivial⟩,⟨rfl,rfl⟩,yJ.out⟩
theorem doingK2_spec (w0:World) (b:Nat):Spec Tryz.prog w0 31 [pB b,.int .i64 2] 0 (fun r h'=>r=.func (.func 71) #[pB b] #[]∧0=h'):=by
 refine zN Tryz.func31 M Tryz.ntmps31 Tryz.results31 M fun fr=>?_
 refine zaM ?_
 refine L_no M M (pv_eql M M) (by decide) ?_
 refine zaA ?_
 refine L_yes M M (pv_eql M M) (by decide) ?_
 refine zaB ?_
 exact ⟨[_],0,_,⟨rfl,trivial⟩,⟨rfl,rfl⟩,yJ.out⟩
theorem doingK3_spec (w0:World) (b:Nat):Spec Tryz.prog w0 31 [pB b,.int .i64 3] 0 (fun r h'=>r=.func (.func 72) #[pB b] #[]∧0=h'):=by
 refine zN Tryz.func31 M Tryz.ntmps31 Tryz.results31 M fun fr=>?_
 refine zaM ?_
 refine L_no M M (pv_eql M M) (by decide) ?_
 refine zaA ?_
 refine L_no M M (pv_eql M M) (by decide) ?_
 refine zaA ?_
 refine L_yes M M (pv_eql M M) (by decide) ?_
 refine zaB ?_
 exact ⟨[_],0,_,⟨rfl,trivial⟩,⟨rfl,rfl⟩,yJ.out⟩
theorem doingK4_spec (w0:World) (b:Nat):Spec Tryz.prog w0 31 [pB b,.int .i64 4] 0 (fun r h'=>r=.func (.func 73) #[pB b] #[]∧0=h'):=by
 refine zN Tryz.func31 M Tryz.ntmps31 Tryz.results31 M fun fr=>?_
 refine zaM ?_
 refine L_no M M (pv_eql M M) (by decide) ?_
 refine zaA ?_
 refine L_no M M (pv_eql M M) (by decide) ?_
 refine zaA ?_
 refine L_no M M (pv_eql M M) (by decide) ?_
 refine zaA ?_
 refine L_yes M M (pv_eql M M) (by decide) ?_
 refine zaB ?_
 exact ⟨[_],0,_,⟨rfl,trivial⟩,⟨rfl,rfl⟩,yJ.out⟩
theorem doingK5_spec (w0:World) (b:Nat):Spec Tryz.prog w0 31 [pB b,.int .i64 5] 0 (fun r h'=>r=.func (.func 74) #[pB b] #[]∧0=h'):=by
 refine zN Tryz.func31 M Tryz.ntmps31 Tryz.results31 M fun fr=>?_
 refine zaM ?_
 refine L_no M M (pv_eql M M) (by decide) ?_
 refine zaA ?_
 refine L_no M M (pv_eql M M) (by decide) ?_
 refine zaA ?_
 refine L_no M M (pv_eql M M) (by decide) ?_
 refine zaA ?_
 refine L_no M M (pv_eql M M) (by decide) ?_
 refine zaA ?_
 refine L_yes M M (pv_eql M M) (by decide) ?_
 refine zaB ?_
 exact ⟨[_],0,_,⟨rfl,trivial⟩,⟨rfl,rfl⟩,yJ.out⟩
theorem doingK6_spec (w0:World) (b:Nat):Spec Tryz.prog w0 31 [pB b,.int .i64 6] 0 (fun r h'=>r=.func (.func 75) #[pB b] #[]∧0=h'):=by
 refine zN Tryz.func31 M Tryz.ntmps31 Tryz.results31 M fun fr=>?_
 refine zaM ?_
 refine L_no M M (pv_eql M M) (by decide) ?_
 refine zaA ?_
 refine L_no M M (pv_eql M M) (by decide) ?_
 refine zaA ?_
 refine L_no M M (pv_eql M M) (by decide) ?_
 refine zaA ?_
 refine L_no M M (pv_eql M M) (by decide) ?_
 refine zaA ?_
 refine L_no M M (pv_eql M M) (by decide) ?_
 refine zaA ?_
 refine L_yes M M (pv_eql M M) (by decide) ?_
 refine zaB ?_
 exact ⟨[_],0,_,⟨rfl,trivial⟩,⟨rfl,rfl⟩,yJ.out⟩
theorem doingK7_spec (w0:World) (b:Nat):Spec Tryz.prog w0 31 [pB b,.int .i64 7] 0 (fun r h'=>r=.func (.func 76) #[pB b] #[]∧0=h'):=by
 refine zN Tryz.func31 M Tryz.ntmps31 Tryz.results31 M fun fr=>?_
 refine zaM ?_
 refine L_no M M (pv_eql M M) (by decide) ?_
 refine zaA ?_
 refine L_no M M (pv_eql M M) (by decide) ?_
 refine zaA ?_
 refine L_no M M (pv_eql M M) (by decide) ?_
 refine zaA ?_
 refine L_no M M (pv_eql M M) (by decide) ?_
 refine zaA ?_
 refine L_no M M (pv_eql M M) (by decide) ?_
 refine zaA ?_
 refine L_no M M (pv_eql M M) (by decide) ?_
 refine zaA ?_
 refine L_yes M M (pv_eql M M) (by decide) ?_
 refine zaB ?_
 exact ⟨[_],0,_,⟨rfl,trivial⟩,⟨rfl,rfl⟩,yJ.out⟩
theorem doingK8_spec (w0:World) (b:Nat):Spec Tryz.prog w0 31 [pB b,.int .i64 8] 0 (fun r h'=>r=.func (.func 77) #[pB b] #[]∧0=h'):=by
 refine zN Tryz.func31 M Tryz.ntmps31 Tryz.results31 M fun fr=>?_
 refine zaM ?_
 refine L_no M M (pv_eql M M) (by decide) ?_
 refine zaA ?_
 refine L_no M M (pv_eql M M) (by decide) ?_
 refine zaA ?_
 refine L_no M M (pv_eql M M) (by decide) ?_
 refine zaA ?_
 refine L_no M M (pv_eql M M) (by decide) ?_
 refine zaA ?_
 refine L_no M M (pv_eql M M) (by decide) ?_
 refine zaA ?_
 refine L_no M M (pv_eql M M) (by decide) ?_
 refine zaA ?_
 refine L_no M M (pv_eql M M) (by decide) ?_
 refine zaA ?_
 refine L_yes M M (pv_eql M M) (by decide) ?_
 refine zaB ?_
 exact ⟨[_],0,_,⟨rfl,trivial⟩,⟨rfl,rfl⟩,yJ.out⟩
theorem doingK9_spec (w0:World) (b:Nat):Spec Tryz.prog w0 31 [pB b,.int .i64 9] 0 (fun r h'=>r=.func (.func 78) #[pB b] #[]∧0=h'):=by
 refine zN Tryz.func31 M Tryz.ntmps31 Tryz.results31 M fun fr=>?_
 refine zaM ?_
 refine L_no M M (pv_eql M M) (by decide) ?_
 refine zaA ?_
 refine L_no M M (pv_eql M M) (by decide) ?_
 refine zaA ?_
 refine L_no M M (pv_eql M M) (by decide) ?_
 refine zaA ?_
 refine L_no M M (pv_eql M M) (by decide) ?_
 refine zaA ?_
 refine L_no M M (pv_eql M M) (by decide) ?_
 refine zaA ?_
 refine L_no M M (pv_eql M M) (by decide) ?_
 refine zaA ?_
 refine L_no M M (pv_eql M M) (by decide) ?_
 refine zaA ?_
 refine L_no M M (pv_eql M M) (by decide) ?_
 refine zaA ?_
 refine L_yes M M (pv_eql M M) (by decide) ?_
 refine zaB ?_
 exact ⟨[_],0,_,⟨rfl,trivial⟩,⟨rfl,rfl⟩,yJ.out⟩
theorem doingK10_spec (w0:World) (b:Nat):Spec Tryz.prog w0 31 [pB b,.int .i64 10] 0 (fun r h'=>r=.func (.func 79) #[pB b] #[]∧0=h'):=by
 refine zN Tryz.func31 M Tryz.ntmps31 Tryz.results31 M fun fr=>?_
 refine zaM ?_
 refine L_no M M (pv_eql M M) (by decide) ?_
 refine zaA ?_
 refine L_no M M (pv_eql M M) (by decide) ?_
 refine zaA ?_
 refine L_no M M (pv_eql M M) (by decide) ?_
 refine zaA ?_
 refine L_no M M (pv_eql M M) (by decide) ?_
 refine zaA ?_
 refine L_no M M (pv_eql M M) (by decide) ?_
 refine zaA ?_
 refine L_no M M (pv_eql M M) (by decide) ?_
 refine zaA ?_
 refine L_no M M (pv_eql M M) (by decide) ?_
 refine zaA ?_
 refine L_no M M (pv_eql M M) (by decide) ?_
 refine zaA ?_
 refine L_no M M (pv_eql M M) (by decide) ?_
 refine zaA ?_
 refine L_yes M M (pv_eql M M) (by decide) ?_
 refine zaB ?_
 exact ⟨[_],0,_,⟨rfl,trivial⟩,⟨rfl,rfl⟩,yJ.out⟩
theorem doingK11_spec (w0:World) (b:Nat):Spec Tryz.prog w0 31 [pB b,.int .i64 11] 0 (fun r h'=>r=.func (.func 80) #[pB b] #[]∧0=h'):=by
 refine zN Tryz.func31 M Tryz.ntmps31 Tryz.results31 M fun fr=>?_
 refine zaM ?_
 refine L_no M M (pv_eql M M) (by decide) ?_
 refine zaA ?_
 refine L_no M M (pv_eql M M) (by decide) ?_
 refine zaA ?_
 refine L_no M M (pv_eql M M) (by decide) ?_
 refine zaA ?_
 refine L_no M M (pv_eql M M) (by decide) ?_
 refine zaA ?_
 refine L_no M M (pv_eql M M) (by decide) ?_
 refine zaA ?_
 refine L_no M M (pv_eql M M) (by decide) ?_
 refine zaA ?_
 refine L_no M M (pv_eql M M) (by decide) ?_
 refine zaA ?_
 refine L_no M M (pv_eql M M) (by decide) ?_
 refine zaA ?_
 refine L_no M M (pv_eql M M) (by decide) ?_
 refine zaA ?_
 refine L_no M M (pv_eql M M) (by decide) ?_
 refine zaA ?_
 refine L_yes M M (pv_eql M M) (by decide) ?_
 refine zaB ?_
 exact ⟨[_],0,_,⟨rfl,trivial⟩,⟨rfl,rfl⟩,yJ.out⟩
theorem doingNo_spec (w0:World) (b:Nat) (k:Int) (h:k<1∨11<k):Spec Tryz.prog w0 31 [pB b,.int .i64 k] 0 (fun r h'=>r=.nilFunc∧0=h'):=by
 refine zN Tryz.func31 M Tryz.ntmps31 Tryz.results31 M fun fr=>?_
 refine zaM ?_
 refine L_no M M (pv_eql M M) (by omega) ?_
 refine zaA ?_
 refine L_no M M (pv_eql M M) (by omega) ?_
 refine zaA ?_
 refine L_no M M (pv_eql M M) (by omega) ?_
 refine zaA ?_
 refine L_no M M (pv_eql M M) (by omega) ?_
 refine zaA ?_
 refine L_no M M (pv_eql M M) (by omega) ?_
 refine zaA ?_
 refine L_no M M (pv_eql M M) (by omega) ?_
 refine zaA ?_
 refine L_no M M (pv_eql M M) (by omega) ?_
 refine zaA ?_
 refine L_no M M (pv_eql M M) (by omega) ?_
 refine zaA ?_
 refine L_no M M (pv_eql M M) (by omega) ?_
 refine zaA ?_
 refine L_no M M (pv_eql M M) (by omega) ?_
 refine zaA ?_
 refine L_no M M (pv_eql M M) (by omega) ?_
 refine zbC ?_
 exact ⟨[_],0,_,⟨rfl,trivial⟩,⟨rfl,rfl⟩,yJ.out⟩
theorem zcM {G G' : Prop} (h : G') (f : Zh G'→G:=by intro h; (repeat (first|refine zE ?_|refine zK M M M ?_|refine zM ?_|refine L_stA M (vs:=[_,_,_]) M M M M (c':=[_,_,_]) M M ?_)); exact h.o) : G:=f ⟨h⟩
section
variable (w0:World) (X:Hp) (b tb:Nat) (c:Cl) (S:Hp) (n:Nat) (x:Cal)
theorem doing_all (D:Hp) (d:List Bt) (da:Option Addr) (dc:Nat) (hd:RdL w0 D (.slice da d.length dc) d) (hdl:d.length≤1000000000) (hS:CliT w0 X b tb c S) (hZ:Sz n c) (hn:n+100≤100000000) (hF:Fine c) (hB:Base c) (ho:c.own=false) (hx:CalSz x) (h1:1≤x.kind∧x.kind≤11) :
  ∃ k,Fun Tryz.prog k∧Spec Tryz.prog w0 31 [pB b,.int .i64 x.kind] 0 (fun r h'=>r=.func (.func k) #[pB b] #[]∧0=h') ∧
   Spec Tryz.prog w0 k [pB b,.agg (cellsX x (.slice da d.length dc)).toArray] (X+S+D) (fun r h'=>∃ tb' h1,After w0 X b tb' (doesF c x d) h1∧h1+D=h'):=by
 have up:∀ {k:Nat} {c':Cl},Spec Tryz.prog w0 k [pB b,.agg (cellsX x (.slice da d.length dc)).toArray] (X+S) (fun r h'=>After w0 X b tb c' h')→doesF c x d=c'→Spec Tryz.prog w0 k [pB b,.agg (cellsX x (.slice da d.length dc)).toArray] (X+S+D) (fun r h'=>∃ tb' h1,After w0 X b tb' (doesF c x d) h1∧h1+D=h') :=
  fun h e=>h.into (R:=D) M fun r h' H=>⟨tb,h',by rw [e]; exact H,rfl⟩
 have up2:∀ {k:Nat} {c':Cl},Spec Tryz.prog w0 k [pB b,.agg (cellsX x (.slice da d.length dc)).toArray] (X+S) (fun r h'=>∃ tb',After w0 X b tb' c' h')→doesF c x d=c'→Spec Tryz.prog w0 k [pB b,.agg (cellsX x (.slice da d.length dc)).toArray] (X+S+D) (fun r h'=>∃ tb' h1,After w0 X b tb' (doesF c x d) h1∧h1+D=h') :=
  fun h e=>h.into (R:=D) M fun r h' ⟨tb',H⟩=>⟨tb',h',by rw [e]; exact H,rfl⟩
 have hk:x.kind=1∨x.kind=2∨x.kind=3∨x.kind=4∨x.kind=5∨x.kind=6∨x.kind=7∨x.kind=8∨x.kind=9∨x.kind=10∨x.kind=11:=by omega
 rcases hk with hk|hk|hk|hk|hk|hk|hk|hk|hk|hk|hk
 ·exact ⟨_,inferInstance,by rw [hk]; exact doingK1_spec w0 b,up2 (beginning_spec w0 X b tb c S n x _ hS hZ hn hF hB ho) (by unfold doesF; rw [if_pos hk])⟩
 ·exact ⟨_,inferInstance,by rw [hk]; exact doingK2_spec w0 b,up (readings_spec w0 X b tb c S n x _ hS hZ hn hF) (by unfold doesF; rw [if_neg (by omega)]; rw [if_pos hk])⟩
 ·exact ⟨_,inferInstance,by rw [hk]; exact doingK3_spec w0 b,(writings_spec w0 X b tb c S n x D d da dc hd hdl hS hZ hn hF).mono fun r h' ⟨h1,H,e⟩=>⟨tb,h1,by rw [show doesF c x d=writingF c x d by unfold doesF; rw [if_neg (by omega),if_neg (by omega),if_pos hk]]; exact H,e⟩⟩
 ·exact ⟨_,inferInstance,by rw [hk]; exact doingK4_spec w0 b,up (committing_spec w0 X b tb c S n x _ hS hZ hn hF) (by unfold doesF; rw [if_neg (by omega)]; rw [if_neg (by omega)]; rw [if_neg (by omega)]; rw [if_pos hk])⟩
 ·exact ⟨_,inferInstance,by rw [hk]; exact doingK5_spec w0 b,up (aborting_spec w0 X b tb c S n x _ hS hZ hn hF) (by unfold doesF; rw [if_neg (by omega)]; rw [if_neg (by omega)]; rw [if_neg (by omega)]; rw [if_neg (by omega)]; rw [if_pos hk])⟩
 ·exact ⟨_,inferInstance,by rw [hk]; exact doingK6_spec w0 b,up (barring_spec w0 X b tb c S n x _ hS hZ hn hF) (by unfold doesF; rw [if_neg (by omega)]; rw [if_neg (by omega)]; rw [if_neg (by omega)]; rw [if_neg (by omega)]; rw [if_neg (by omega)]; rw [if_pos hk])⟩
 ·exact ⟨_,inferInstance,by rw [hk]; exact doingK7_spec w0 b,up2 (snapping_spec w0 X b tb c S n x _ hS hZ hn hF hB ho) (by unfold doesF; rw [if_neg (by omega)]; rw [if_neg (by omega)]; rw [if_neg (by omega)]; rw [if_neg (by omega)]; rw [if_neg (by omega)]; rw [if_neg (by omega)]; rw [if_pos hk])⟩
 ·exact ⟨_,inferInstance,by rw [hk]; exact doingK8_spec w0 b,up (readingSnap_spec w0 X b tb c S n x _ hS hZ hn hF hx) (by unfold doesF; rw [if_neg (by omega)]; rw [if_neg (by omega)]; rw [if_neg (by omega)]; rw [if_neg (by omega)]; rw [if_neg (by omega)]; rw [if_neg (by omega)]; rw [if_neg (by omega)]; rw [if_pos hk])⟩
 ·exact ⟨_,inferInstance,by rw [hk]; exact doingK9_spec w0 b,up (statusing_spec w0 X b tb c S n x _ hS hZ hn hF) (by unfold doesF; rw [if_neg (by omega)]; rw [if_neg (by omega)]; rw [if_neg (by omega)]; rw [if_neg (by omega)]; rw [if_neg (by omega)]; rw [if_neg (by omega)]; rw [if_neg (by omega)]; rw [if_neg (by omega)]; rw [if_pos hk])⟩
 ·exact ⟨_,inferInstance,by rw [hk]; exact doingK10_spec w0 b,up (moving_spec w0 X b tb c S n x _ hS hZ hn hF hx) (by unfold doesF; rw [if_neg (by omega)]; rw [if_neg (by omega)]; rw [if_neg (by omega)]; rw [if_neg (by omega)]; rw [if_neg (by omega)]; rw [if_neg (by omega)]; rw [if_neg (by omega)]; rw [if_neg (by omega)]; rw [if_neg (by omega)]; rw [if_pos hk])⟩
 ·exact ⟨_,inferInstance,by rw [hk]; exact doingK11_spec w0 b,up (membering_spec w0 X b tb c S n x _ hS hZ hn hF) (by unfold doesF; rw [if_neg (by omega)]; rw [if_neg (by omega)]; rw [if_neg (by omega)]; rw [if_neg (by omega)]; rw [if_neg (by omega)]; rw [if_neg (by omega)]; rw [if_neg (by omega)]; rw [if_neg (by omega)]; rw [if_neg (by omega)]; rw [if_neg (by omega)])⟩
theorem calling_spec (D:Hp) (d:List Bt) (da:Option Addr) (dc:Nat) (hd:RdL w0 D (.slice da d.length dc) d) (hdl:d.length≤1000000000) (hS:CliT w0 X b tb c S) (hZ:Sz n c) (hn:n+200≤100000000) (hA:AtRest c) (hx:CalSz x) :
  Spec Tryz.prog w0 11 [pB b,.agg (cellsX x (.slice da d.length dc)).toArray] (X+S+D) (fun r h'=>∃ tb' h1,Fin w0 X b tb' (callF c x d).1 (callF c x d).2 r h1∧h1+D=h'):=by
 have hF:=hA.2.1
 have hno:∀ {r:Value} {e:Int},r=.tuple #[.slice none 0 0,.agg [.int .i64 e,.int .i64 0,.slice none 0 0].toArray,.bool true]→callF c x d=(c,⟨[],⟨e,0,[]⟩,true⟩)→∃ tb' h1,Fin w0 X b tb' (callF c x d).1 (callF c x d).2 r h1∧h1+D=X+S+D:=by
  rintro r e rfl he
  rw [he]
  exact ⟨tb,X+S,⟨0,S,0,⟨.slice none 0 0,none,0,rfl,OwL.nil _ _,RdL.nil _ _ _⟩,by rw [yA]; exact hS,by rw [yA,yA]⟩,rfl⟩
 have hS9:=id hS
 obtain ⟨⟨vmem,vr0,vsets,vmr,vg,ve,vd,vrq,vop,vow,vw,vco,vou,van⟩,ps,hG,hE,hD,hR,hT,hK,hO,P,rfl⟩:=hS
 refine zN Tryz.func11 M Tryz.ntmps11 Tryz.results11 M fun fr=>?_
 repeat (first|refine zF ?_|refine zB ?_|refine zE ?_|refine zK M M M ?_|refine zY M M M M M ?_|refine L_ld M M M M M ?_|refine L_box M (c:=[_,_,_,_,_,_,_,_,_,_,_,_,_]) M M M (fun _=>?_)|refine L_alloc (c:=[_,_,_]) M M M (fun _=>?_))
 rename_i b3 b5
 refine hold_cond (t:=c.busy) M (fun hb=>?_) (fun hb=>?_)
 ·repeat (first|refine zF ?_|refine zB ?_|refine zE ?_|refine zK M M M ?_|refine zM ?_|refine L_build (vs:=[_]) (cells:=[_,_,_]) M M M M ?_|refine L_stA M (vs:=[_,_,_]) M M M M (c':=[_,_,_]) M M ?_)
  exact ⟨[_,_,_],X+_+D,_,⟨rfl,⟨_,rfl,zL (vs:=[_,_,_]) M M M⟩,rfl,trivial⟩,hno (e:=11) M (by unfold callF; rw [if_pos hb]),yJ.out⟩
 repeat (first|refine zF ?_|refine zB ?_|refine zK M M M ?_|refine zY M M M M M ?_|refine L_ld M M M M M ?_|refine zP ?_)
 by_cases hk:x.kind<1∨11<x.kind
 ·refine zX M M (zQ M M M) (doingNo_spec w0 b x.kind hk) ?_
  rintro _ _ ⟨rfl,rfl⟩
  refine zaC ?_
  refine yG M M (pv_eql_nilfunc (r:=true) M M (.inl ⟨rfl,rfl⟩)) ?_
  repeat (first|refine zF ?_|refine zB ?_|refine zE ?_|refine zK M M M ?_|refine zM ?_|refine zJ M ?_|refine L_build (vs:=[_]) (cells:=[_,_,_]) M M M M ?_|refine L_stA M (vs:=[_,_,_]) M M M M (c':=[_,_,_]) M M ?_)
  exact ⟨[_,_,_],X+_+D,_,⟨rfl,⟨_,rfl,zL (vs:=[_,_,_]) M M M⟩,rfl,trivial⟩,hno (e:=13) M (by unfold callF; rw [if_neg (by rw [hb]; simp),if_pos hk]),yJ.out⟩
 have hr:Rest c:=hA.2.2.2.elim (fun hw=>by rw [hw.1] at hb; cases hb) id
 have hB1:Base { c with busy:=true,kind:=x.kind,since:=c.clock }:=⟨rfl,hr.2.1,hr.2.2.1,hr.2.2.2.1,hr.2.2.2.2.1⟩
 have hF1:Fine { c with busy:=true,kind:=x.kind,since:=c.clock }:=⟨hF.guess,hF.reqs,hF.rngs,hF.parts,hF.asked,hF.doubts,hF.coord,hF.nmem⟩
 have hZ1:Sz n { c with busy:=true,kind:=x.kind,since:=c.clock }:=hZ.begun x.kind
 have hP1:Parts w0 X b { c with busy:=true,kind:=x.kind,since:=c.clock } ⟨vmem,vr0,vsets,vmr,vg,ve,vd,vrq,vop,vow,vw,vco,vou,van⟩ tb ps hG hE hD hR hT hK hO :=
  Parts.mk P.mem P.rngs0 P.sets P.mr P.guess P.ended P.dbts P.reqs P.opn P.own P.txn P.waits P.coord P.out P.ansd
 obtain ⟨k,hfk,hdoing,hrun⟩:=doing_all w0 X b tb { c with busy:=true,kind:=x.kind,since:=c.clock } _ n x D d da dc hd hdl ⟨_,ps,hG,hE,hD,hR,hT,hK,hO,hP1,rfl⟩ hZ1 (by omega) hF1 hB1 hr.2.2.2.2.2 hx (by omega)
 have hdo:=doesF_ok hB1 hr.2.2.2.2.2 hF1 x M (by omega) d
 have hZ2:=hZ1.does (by omega) hF1 hx d
 have e0:callF c x d=(doneF (doesF { c with busy:=true,kind:=x.kind,since:=c.clock } x d),endF (doesF { c with busy:=true,kind:=x.kind,since:=c.clock } x d)):=by
  unfold callF; rw [if_neg (by rw [hb]; simp),if_neg hk]
 rw [e0]
 clear e0 hno
 refine zX M M (zQ M M M) hdoing ?_
 rintro _ _ ⟨rfl,rfl⟩
 refine zaC ?_
 refine yG M M (pv_eql_nilfunc (r:=false) M M (.inr ⟨⟨_,_,_,rfl⟩,rfl⟩)) ?_
 refine zbP ?_
 refine yB [11,14,17] [0,1,2,3,4,5,6,7,8,9,10,11,12,13,14,15,16,17] (by kernel_rfl) M (by kernel_rfl) (by kernel_rfl) ?_
 refine zaF ?_
 refine W_eff M M M M (ev_store M M M M M (c':=(_::_::_::_::_::_::_::_::_::_::_::_::_::_::_::_::_::_::_::_::_::_::_::_::_::_::_::_::_::_::_::_::_::_::_::_::_::_::[])) M) (Kept.all _) ?_
 rintro _ _ rfl
 refine ⟨zka,?_⟩
 refine zaN ?_
 refine W_eff M M M M (ev_store M M M M M (c':=(_::_::_::_::_::_::_::_::_::_::_::_::_::_::_::_::_::_::_::_::_::_::_::_::_::_::_::_::_::_::_::_::_::_::_::_::_::_::[])) M) (Kept.all _) ?_
 rintro _ _ rfl
 refine ⟨zka,?_⟩
 refine zaN ?_
 refine W_eff M M M M (ev_store M M M M M (c':=(_::_::_::_::_::_::_::_::_::_::_::_::_::_::_::_::_::_::_::_::_::_::_::_::_::_::_::_::_::_::_::_::_::_::_::_::_::_::[])) M) (Kept.all _) ?_
 rintro _ _ rfl
 refine ⟨zka,?_⟩
 repeat (refine yI ?_)
 repeat (first|refine zF ?_|refine zB ?_|refine zK M M M ?_|refine L_ldA M (vs:=[_,_,_,_,_,_,_,_,_,_,_,_,_]) M M M M M ?_)
 refine zX M M (zQ M M (by simp<;>rfl)) hrun ?_
 rintro _ _ ⟨tb',h1,⟨E,S2,hS2,rfl⟩,rfl⟩
 generalize doesF { c with busy:=true,kind:=x.kind,since:=c.clock } x d=c3 at *
 refine zaC ?_
 refine zX M M (zQ M M M) (doneC_spec w0 (X+E) b tb' c3 S2 (n+40) hS2 hZ2.bd (by omega) hdo.1) ?_
 rintro r h' ⟨E2,S3,ho,⟨vo,ad,cd,rfl,q1,q2⟩,q3,rfl⟩
 refine zcM ?_
 exact ⟨[_,_,_],_,_,⟨rfl,⟨_,rfl,zL (vs:=[_,_,_]) M M M⟩,rfl,trivial⟩,⟨tb',_,⟨E+E2,S3,ho,⟨vo,ad,cd,rfl,by rw [← hadd_assoc]; exact q1,by rw [← hadd_assoc]; exact q2⟩,by rw [← hadd_assoc]; exact q3,rfl⟩,rfl⟩,yJ.out⟩
end
theorem over_facts {c:Cl} (h:Work c):((c.kind=4∨c.kind=7)→c.own=true∨c.opn=true)∧(c.kind=2→c.opn=true):=by
 rcases h.2.2 with ⟨_,_,w,_,k⟩|⟨⟨h,_,k⟩,_⟩|⟨_,b,_,k⟩|⟨_,_,_,_,_,k⟩
 ·cases w with
  | read x=>exact ⟨fun _=>.inr k.2.1,fun _=>k.2.1⟩
  | prep=>exact ⟨fun _=>.inr k.2.1,fun _=>k.2.1⟩
  | snap=>exact ⟨fun _=>.inl k.2.2,fun e=>by have:=k.1; omega⟩
  | kept x=>exact ⟨fun e=>by have:=k.1; omega,fun e=>by have:=k.1; omega⟩
  | again x=>exact ⟨fun e=>by have:=k.1; omega,fun e=>by have:=k.1; omega⟩
 ·cases h with
  | read x=>exact ⟨fun _=>.inr k.2,fun _=>k.2⟩
  | kept x=>have k:c.kind=8:=k; exact ⟨fun e=>by omega,fun e=>by omega⟩
  | plan x=>have k:c.kind=10:=k; exact ⟨fun e=>by omega,fun e=>by omega⟩
  | frz x e=>have k:c.kind=10:=k; exact ⟨fun e=>by omega,fun e=>by omega⟩
  | inst x e=>have k:c.kind=10:=k; exact ⟨fun e=>by omega,fun e=>by omega⟩
  | fin x e=>have k:c.kind=10:=k; exact ⟨fun e=>by omega,fun e=>by omega⟩
  | change x=>have k:c.kind=11:=k; exact ⟨fun e=>by omega,fun e=>by omega⟩
  | quiet=>exact k.elim
  | look=>exact k.elim
  | part o g=>exact k.elim
 ·exact ⟨fun _=>.inl b,fun e=>by rcases k with k|k<;>have:=k.1<;>omega⟩
 ·exact ⟨fun e=>by omega,fun e=>by omega⟩
theorem zfE {G G' : Prop} (h : G') (f : Zh G'→G:=by intro h; (repeat (first|refine zF ?_|refine zR ?_|refine zB ?_|refine zE ?_|refine zK M M M ?_|refine zY M M M M M ?_|refine L_ld M M M M M ?_|refine zP ?_|refine zI M ?_)); exact h.o) : G:=f ⟨h⟩
theorem zdW {G G' : Prop} (h : G') (f : Zh G'→G:=by intro h; (repeat (first|refine zF ?_|refine zR ?_|refine zB ?_|refine zE ?_|refine zK M M M ?_|refine zY M M M M M ?_|refine L_ld M M M M M ?_|refine zJ M ?_)); exact h.o) : G:=f ⟨h⟩
section
variable (w0:World) (X:Hp) (b tb:Nat) (c:Cl) (S:Hp) (n:Nat)
theorem overing_spec (hS:CliT w0 X b tb c S) (hZ:Sz n c) (hn:n+400≤100000000) (hF:Fine c) (hW:Work c) :
  Spec Tryz.prog w0 85 [pB b] (X+S) (fun r h'=>After w0 X b tb (overF c) h'):=by
 have hdrop:=drop_spec w0 X b tb c S n hS hZ.bd (by omega)
 have hZ1:Sz n { dropF c with coord:=none }:=hZ.clear
 have hF1:Fine { dropF c with coord:=none }:=hF.clear
 obtain ⟨ho1,ho2⟩:=over_facts hW
 refine zN Tryz.func85 M Tryz.ntmps85 Tryz.results85 M fun fr=>?_
 refine zaW ?_
 refine zX M M (zQ M M M) hdrop ?_
 clear hdrop hS
 rintro _ _ ⟨S1,hS1,rfl⟩
 obtain ⟨⟨vmem,vr0,vsets,vmr,vg,ve,vd,vrq,vop,vow,vw,vco,vou,van⟩,ps,hG,hE,hD,hR,hT,hK,hO,P,rfl⟩:=hS1
 have hP:Parts w0 X b { dropF c with coord:=none } ⟨vmem,vr0,vsets,vmr,vg,ve,vd,vrq,vop,vow,vw,.pointer none,vou,van⟩ tb ps hG hE hD hR hT 0 hO :=
  Parts.mk P.mem P.rngs0 P.sets P.mr P.guess P.ended P.dbts P.reqs P.opn P.own P.txn P.waits ⟨rfl,rfl⟩ P.out P.ansd
 have hS2:CliT w0 X b tb { dropF c with coord:=none } _:=⟨_,ps,hG,hE,hD,hR,hT,0,hO,hP,rfl⟩
 have hvo:vow=ptrIf c.own tb:=P.own
 have hvp:vop=ptrIf c.opn tb:=P.opn
 have hcv:∃ q,vco=.pointer q∧q.isSome=c.coord.isSome:=by
  have:=P.coord
  rw [show (dropF c).coord=c.coord from rfl] at this
  cases hc:c.coord with
  | none=>rw [hc] at this; exact ⟨_,this.1,rfl⟩
  | some k=>rw [hc] at this; obtain ⟨kb,e,-⟩:=this; exact ⟨_,e,rfl⟩
 obtain ⟨q,rfl,hq⟩:=hcv
 cases how:c.own
 ·rw [how] at hvo
  simp only [ptrIf,cond_false] at hvo
  subst hvo
  rcases q with _|qa
  ·have hcs:c.coord.isSome=false:=hq.symm
   by_cases hk:c.kind=4∨c.kind=7
   ·have hop:c.opn=true:=(ho1 hk).resolve_left (by rw [how]; simp)
    have e0:overF c=closeF { tidyF { dropF c with coord:=none } c.cur.id (groupsF c.cur) 2 with own:=true } 24:=by unfold overF; rw [if_pos hk,if_neg (by rw [hcs]; simp)]; rfl
    rw [e0]
    clear e0
    rw [hop] at hvp
    simp only [ptrIf,cond_true] at hvp
    subst hvp
    have hT2:TxnAt w0 X tb c.cur hT:=by
     rcases P.txn with h|h
     ·exact h
     ·exact absurd h (fun h=>by have h1:=h.1; have h2:=h.2.1; rw [show (dropF c).own=c.own from rfl] at h2; rw [show (dropF c).opn=c.opn from rfl] at h1; simp_all)
    have hca:=hZ.cur.asked
    have hcp:=hZ.cur.parts
    have hgs:=groups_spec w0 X tb c.cur hT hT2 (by omega)
    have hgl:=groupsF_five hF
    obtain ⟨vr,va,vw',ap,cp,hr,ha,hw,rfl,k1,k2,k3,k4⟩:=id hT2
    refine zbF ?_
    refine yG M M (pv_neq_nilp M M) ?_
    refine zbO ?_
    refine yG M M (pv_eql_nilp M M) ?_
    refine zdW ?_
    rcases hk with hk|hk
    ·refine L_yes M M (pv_eql M M) hk ?_
     repeat (first|refine zF ?_|refine zB ?_|refine zE ?_|refine zK M M M ?_|refine zP ?_|refine zJ M ?_|refine zI M ?_)
     refine yB [6,7] [0,1,2,3,4,5,6,7] (by kernel_rfl) M (by kernel_rfl) (by kernel_rfl) ?_
     refine zaF ?_
     refine W_call M M M M (zQ M M M) hgs (Kept.all _) ?_
     rintro _ _ ⟨k5,o5,rfl⟩
     obtain ⟨a5,c5,rfl⟩:=o5.shape
     refine ⟨zka,?_⟩
     skip
     have htd:=tidying_spec w0 (X+k5) b tb { dropF c with coord:=none } _ n (hS2.mono M) hZ1.bd c.cur.id 2 (groupsF c.cur) a5 c5 (o5.rd (X:=0) (R:=X)) (by omega) hF1.groups hZ.cur.nums.1 i64_2
     refine W_call M M M M (zQ M M M) htd (.drop (by kernel_rfl) .nil) ?_
     rintro _ _ ⟨S2,h2,rfl⟩
     refine ⟨trivial,?_⟩
     have hkp:=adds_keep (tidyF_adds { dropF c with coord:=none } c.cur.id (groupsF c.cur) 2 hF1.groups)
     have ho3:(tidyF { dropF c with coord:=none } c.cur.id (groupsF c.cur) 2).own=c.own:=hkp.2.2.2.1
     have ho4:(tidyF { dropF c with coord:=none } c.cur.id (groupsF c.cur) 2).opn=c.opn:=hkp.2.2.2.2.1
     generalize tidyF { dropF c with coord:=none } c.cur.id (groupsF c.cur) 2=c2 at *
     obtain ⟨⟨um,ur0,us,umr,ug,ue,ud,urq,uop,uow,uw,uco,uou,uan⟩,qs,jG,jE,jD,jR,jT,jK,jO,P2,rfl⟩:=h2
     repeat (refine yI ?_)
     refine zbU ?_
     have hP3:Parts w0 (X+k5) b { c2 with own:=true } ⟨um,ur0,us,umr,ug,ue,ud,urq,uop,pB tb,uw,uco,uou,uan⟩ tb qs jG jE jD jR jT jK jO :=
      Parts.mk P2.mem P2.rngs0 P2.sets P2.mr P2.guess P2.ended P2.dbts P2.reqs P2.opn M (P2.txn.elim .inl fun h=>absurd h (fun h=>by have h1:=h.1; have h2:=h.2.1; rw [ho3] at h2; rw [ho4] at h1; simp_all)) P2.waits P2.coord P2.out P2.ansd
     refine zX M M (zQ M M M) (closing_spec w0 (X+k5) b tb { c2 with own:=true } _ ⟨_,qs,jG,jE,jD,jR,jT,jK,jO,hP3,rfl⟩ 24 (fun _=>rfl)) ?_
     rintro _ _ hA
     repeat (refine zE ?_)
     exact ⟨[],_,_,trivial,hA.after.trans,yJ.out⟩
    ·refine L_no M M (pv_eql M M) (show ¬ c.kind=4 by omega) ?_
     refine zaG ?_
     refine L_yes M M (pv_eql M M) hk ?_
     repeat (first|refine zF ?_|refine zB ?_|refine zE ?_|refine zK M M M ?_|refine zJ M ?_|refine zI M ?_)
     refine yB [6,7] [0,1,2,3,4,5,6,7] (by kernel_rfl) M (by kernel_rfl) (by kernel_rfl) ?_
     refine zaF ?_
     refine W_call M M M M (zQ M M M) hgs (Kept.all _) ?_
     rintro _ _ ⟨k5,o5,rfl⟩
     obtain ⟨a5,c5,rfl⟩:=o5.shape
     refine ⟨zka,?_⟩
     skip
     have htd:=tidying_spec w0 (X+k5) b tb { dropF c with coord:=none } _ n (hS2.mono M) hZ1.bd c.cur.id 2 (groupsF c.cur) a5 c5 (o5.rd (X:=0) (R:=X)) (by omega) hF1.groups hZ.cur.nums.1 i64_2
     refine W_call M M M M (zQ M M M) htd (.drop (by kernel_rfl) .nil) ?_
     rintro _ _ ⟨S2,h2,rfl⟩
     refine ⟨trivial,?_⟩
     have hkp:=adds_keep (tidyF_adds { dropF c with coord:=none } c.cur.id (groupsF c.cur) 2 hF1.groups)
     have ho3:(tidyF { dropF c with coord:=none } c.cur.id (groupsF c.cur) 2).own=c.own:=hkp.2.2.2.1
     have ho4:(tidyF { dropF c with coord:=none } c.cur.id (groupsF c.cur) 2).opn=c.opn:=hkp.2.2.2.2.1
     generalize tidyF { dropF c with coord:=none } c.cur.id (groupsF c.cur) 2=c2 at *
     obtain ⟨⟨um,ur0,us,umr,ug,ue,ud,urq,uop,uow,uw,uco,uou,uan⟩,qs,jG,jE,jD,jR,jT,jK,jO,P2,rfl⟩:=h2
     repeat (refine yI ?_)
     refine zbU ?_
     have hP3:Parts w0 (X+k5) b { c2 with own:=true } ⟨um,ur0,us,umr,ug,ue,ud,urq,uop,pB tb,uw,uco,uou,uan⟩ tb qs jG jE jD jR jT jK jO :=
      Parts.mk P2.mem P2.rngs0 P2.sets P2.mr P2.guess P2.ended P2.dbts P2.reqs P2.opn M (P2.txn.elim .inl fun h=>absurd h (fun h=>by have h1:=h.1; have h2:=h.2.1; rw [ho3] at h2; rw [ho4] at h1; simp_all)) P2.waits P2.coord P2.out P2.ansd
     refine zX M M (zQ M M M) (closing_spec w0 (X+k5) b tb { c2 with own:=true } _ ⟨_,qs,jG,jE,jD,jR,jT,jK,jO,hP3,rfl⟩ 24 (fun _=>rfl)) ?_
     rintro _ _ hA
     repeat (refine zE ?_)
     exact ⟨[],_,_,trivial,hA.after.trans,yJ.out⟩
   ·have e0:overF c=if c.kind=2 then lostF { dropF c with coord:=none } 0 else if c.kind=8 then codeF { dropF c with coord:=none } 11 else codeF { dropF c with coord:=none } 25:=by unfold overF; rw [if_neg hk]; rfl
    rw [e0]
    clear e0
    obtain ⟨vq,rfl⟩:∃ z,vop=.pointer z:=⟨_,hvp⟩
    refine zbF ?_
    refine yG M M (pv_neq_nilp M M) ?_
    refine zbO ?_
    refine yG M M (pv_eql_nilp M M) ?_
    refine zdW ?_
    refine L_no M M (pv_eql M M) (fun h=>hk (.inl (show c.kind=4 from h))) ?_
    refine zaG ?_
    refine L_no M M (pv_eql M M) (fun h=>hk (.inr (show c.kind=7 from h))) ?_
    refine zaA ?_
    refine yF M M (pv_eql M M) (fun h2=>?_) (fun h2=>?_)
    ·rw [if_pos (show c.kind=2 from h2)]
     refine zaU ?_
     have hca:=hZ.cur.asked
     have hcp:=hZ.cur.parts
     refine zX M M (zQ M M M) (losing_spec w0 X b tb { dropF c with coord:=none } _ n hS2 hZ1.bd hF1 (by show n+c.cur.parts.length+c.cur.asked.length+10≤_; omega) (ho2 h2) hZ.cur.nums.1 0) ?_
     rintro _ _ hA
     repeat (refine zE ?_)
     exact ⟨[],_,_,trivial,hA,yJ.out⟩
    rw [if_neg (show ¬ c.kind=2 from h2)]
    refine zaA ?_
    refine yF M M (pv_eql M M) (fun h3=>?_) (fun h3=>?_)
    ·rw [if_pos (show c.kind=8 from h3)]
     refine zaU ?_
     refine zX M M (zQ M M M) (coding_spec w0 X b tb { dropF c with coord:=none } _ hS2 11) ?_
     rintro _ _ hA
     repeat (refine zE ?_)
     exact ⟨[],_,_,trivial,hA.after,yJ.out⟩
    ·rw [if_neg (show ¬ c.kind=8 from h3)]
     refine zaG ?_
     refine zX M M (zQ M M M) (coding_spec w0 X b tb { dropF c with coord:=none } _ hS2 25) ?_
     rintro _ _ hA
     repeat (refine zE ?_)
     exact ⟨[],_,_,trivial,hA.after,yJ.out⟩
  ·have hcs:c.coord.isSome=true:=hq.symm
   have hk:c.kind=6∨c.kind=9:=by
    rcases hW.2.2 with ⟨_,e,_⟩|⟨_,_,e,_⟩|⟨_,e,_,_⟩|⟨_,_,_,_,_,k⟩
    ·rw [e] at hcs; cases hcs
    ·rw [e] at hcs; cases hcs
    ·rw [e] at how; cases how
    ·exact k
   have e0:overF c=codeF { dropF c with coord:=none } 25:=by unfold overF; rw [if_neg (by omega),if_neg (by omega),if_neg (by omega)]; rfl
   rw [e0]
   clear e0
   obtain ⟨vq,rfl⟩:∃ z,vop=.pointer z:=⟨_,hvp⟩
   refine zbF ?_
   refine yG M M (pv_neq_nilp M M) ?_
   refine zbO ?_
   refine yG M M (pv_eql_nilp M M) ?_
   refine zdW ?_
   refine L_no M M (pv_eql M M) (show ¬ c.kind=4 by omega) ?_
   refine zaG ?_
   refine L_no M M (pv_eql M M) (show ¬ c.kind=7 by omega) ?_
   refine zaA ?_
   refine L_no M M (pv_eql M M) (show ¬ c.kind=2 by omega) ?_
   refine zaA ?_
   refine L_no M M (pv_eql M M) (show ¬ c.kind=8 by omega) ?_
   refine zaG ?_
   refine zX M M (zQ M M M) (coding_spec w0 X b tb { dropF c with coord:=none } _ hS2 25) ?_
   rintro _ _ hA
   repeat (refine zE ?_)
   exact ⟨[],_,_,trivial,hA.after,yJ.out⟩
 ·rw [how] at hvo
  simp only [ptrIf,cond_true] at hvo
  subst hvo
  have hk:c.kind=4∨c.kind=7:=by
   rcases hW.2.2 with ⟨_,_,w,_,k⟩|⟨_,_,_,e⟩|⟨_,_,_,k⟩|⟨_,_,e,_⟩
   ·cases w with
    | read x=>have:=k.2.2; rw [how] at this; cases this
    | prep=>exact .inl k.1
    | snap=>exact .inr k.1
    | kept x=>have:=k.2; rw [how] at this; cases this
    | again x=>have:=k.2; rw [how] at this; cases this
   ·rw [how] at e; cases e
   ·rcases k with k|k
    ·exact .inl k.1
    ·exact .inr k.1
   ·rw [how] at e; cases e
  rcases q with _|qa
  ·have hcs:c.coord.isSome=false:=hq.symm
   have e0:overF c=closeF { tidyF { dropF c with coord:=none } c.cur.id (groupsF c.cur) 2 with own:=true } 24:=by unfold overF; rw [if_pos hk,if_neg (by rw [hcs]; simp)]; rfl
   rw [e0]
   clear e0
   have hT2:TxnAt w0 X tb c.cur hT:=by
    rcases P.txn with h|h
    ·exact h
    ·exact absurd h (fun h=>by have h1:=h.1; have h2:=h.2.1; rw [show (dropF c).own=c.own from rfl] at h2; rw [show (dropF c).opn=c.opn from rfl] at h1; simp_all)
   have hca:=hZ.cur.asked
   have hcp:=hZ.cur.parts
   have hgs:=groups_spec w0 X tb c.cur hT hT2 (by omega)
   have hgl:=groupsF_five hF
   obtain ⟨vr,va,vw',ap,cp,hr,ha,hw,rfl,k1,k2,k3,k4⟩:=id hT2
   refine zbF ?_
   refine yG M M (pv_neq_nilp M M) ?_
   refine zbO ?_
   refine yG M M (pv_eql_nilp M M) ?_
   refine zfE ?_
   rcases hk with hk|hk
   ·refine L_yes M M (pv_eql M M) hk ?_
    repeat (first|refine zF ?_|refine zB ?_|refine zE ?_|refine zK M M M ?_|refine zP ?_|refine zJ M ?_|refine zI M ?_)
    refine yB [6,7] [0,1,2,3,4,5,6,7] (by kernel_rfl) M (by kernel_rfl) (by kernel_rfl) ?_
    refine zaF ?_
    refine W_call M M M M (zQ M M M) hgs (Kept.all _) ?_
    rintro _ _ ⟨k5,o5,rfl⟩
    obtain ⟨a5,c5,rfl⟩:=o5.shape
    refine ⟨zka,?_⟩
    skip
    have htd:=tidying_spec w0 (X+k5) b tb { dropF c with coord:=none } _ n (hS2.mono M) hZ1.bd c.cur.id 2 (groupsF c.cur) a5 c5 (o5.rd (X:=0) (R:=X)) (by omega) hF1.groups hZ.cur.nums.1 i64_2
    refine W_call M M M M (zQ M M M) htd (.drop (by kernel_rfl) .nil) ?_
    rintro _ _ ⟨S2,h2,rfl⟩
    refine ⟨trivial,?_⟩
    have hkp:=adds_keep (tidyF_adds { dropF c with coord:=none } c.cur.id (groupsF c.cur) 2 hF1.groups)
    have ho3:(tidyF { dropF c with coord:=none } c.cur.id (groupsF c.cur) 2).own=c.own:=hkp.2.2.2.1
    have ho4:(tidyF { dropF c with coord:=none } c.cur.id (groupsF c.cur) 2).opn=c.opn:=hkp.2.2.2.2.1
    generalize tidyF { dropF c with coord:=none } c.cur.id (groupsF c.cur) 2=c2 at *
    obtain ⟨⟨um,ur0,us,umr,ug,ue,ud,urq,uop,uow,uw,uco,uou,uan⟩,qs,jG,jE,jD,jR,jT,jK,jO,P2,rfl⟩:=h2
    repeat (refine yI ?_)
    refine zbU ?_
    have hP3:Parts w0 (X+k5) b { c2 with own:=true } ⟨um,ur0,us,umr,ug,ue,ud,urq,uop,pB tb,uw,uco,uou,uan⟩ tb qs jG jE jD jR jT jK jO :=
     Parts.mk P2.mem P2.rngs0 P2.sets P2.mr P2.guess P2.ended P2.dbts P2.reqs P2.opn M (P2.txn.elim .inl fun h=>absurd h (fun h=>by have h1:=h.1; have h2:=h.2.1; rw [ho3] at h2; rw [ho4] at h1; simp_all)) P2.waits P2.coord P2.out P2.ansd
    refine zX M M (zQ M M M) (closing_spec w0 (X+k5) b tb { c2 with own:=true } _ ⟨_,qs,jG,jE,jD,jR,jT,jK,jO,hP3,rfl⟩ 24 (fun _=>rfl)) ?_
    rintro _ _ hA
    repeat (refine zE ?_)
    exact ⟨[],_,_,trivial,hA.after.trans,yJ.out⟩
   ·refine L_no M M (pv_eql M M) (show ¬ c.kind=4 by omega) ?_
    refine zaG ?_
    refine L_yes M M (pv_eql M M) hk ?_
    repeat (first|refine zF ?_|refine zB ?_|refine zE ?_|refine zK M M M ?_|refine zJ M ?_|refine zI M ?_)
    refine yB [6,7] [0,1,2,3,4,5,6,7] (by kernel_rfl) M (by kernel_rfl) (by kernel_rfl) ?_
    refine zaF ?_
    refine W_call M M M M (zQ M M M) hgs (Kept.all _) ?_
    rintro _ _ ⟨k5,o5,rfl⟩
    obtain ⟨a5,c5,rfl⟩:=o5.shape
    refine ⟨zka,?_⟩
    skip
    have htd:=tidying_spec w0 (X+k5) b tb { dropF c with coord:=none } _ n (hS2.mono M) hZ1.bd c.cur.id 2 (groupsF c.cur) a5 c5 (o5.rd (X:=0) (R:=X)) (by omega) hF1.groups hZ.cur.nums.1 i64_2
    refine W_call M M M M (zQ M M M) htd (.drop (by kernel_rfl) .nil) ?_
    rintro _ _ ⟨S2,h2,rfl⟩
    refine ⟨trivial,?_⟩
    have hkp:=adds_keep (tidyF_adds { dropF c with coord:=none } c.cur.id (groupsF c.cur) 2 hF1.groups)
    have ho3:(tidyF { dropF c with coord:=none } c.cur.id (groupsF c.cur) 2).own=c.own:=hkp.2.2.2.1
    have ho4:(tidyF { dropF c with coord:=none } c.cur.id (groupsF c.cur) 2).opn=c.opn:=hkp.2.2.2.2.1
    generalize tidyF { dropF c with coord:=none } c.cur.id (groupsF c.cur) 2=c2 at *
    obtain ⟨⟨um,ur0,us,umr,ug,ue,ud,urq,uop,uow,uw,uco,uou,uan⟩,qs,jG,jE,jD,jR,jT,jK,jO,P2,rfl⟩:=h2
    repeat (refine yI ?_)
    refine zbU ?_
    have hP3:Parts w0 (X+k5) b { c2 with own:=true } ⟨um,ur0,us,umr,ug,ue,ud,urq,uop,pB tb,uw,uco,uou,uan⟩ tb qs jG jE jD jR jT jK jO :=
     Parts.mk P2.mem P2.rngs0 P2.sets P2.mr P2.guess P2.ended P2.dbts P2.reqs P2.opn M (P2.txn.elim .inl fun h=>absurd h (fun h=>by have h1:=h.1; have h2:=h.2.1; rw [ho3] at h2; rw [ho4] at h1; simp_all)) P2.waits P2.coord P2.out P2.ansd
    refine zX M M (zQ M M M) (closing_spec w0 (X+k5) b tb { c2 with own:=true } _ ⟨_,qs,jG,jE,jD,jR,jT,jK,jO,hP3,rfl⟩ 24 (fun _=>rfl)) ?_
    rintro _ _ hA
    repeat (refine zE ?_)
    exact ⟨[],_,_,trivial,hA.after.trans,yJ.out⟩
  ·have hcs:c.coord.isSome=true:=hq.symm
   have e0:overF c=closeF { dropF c with coord:=none,doubts:=c.doubts++[dbtF c],own:=true } 25:=by unfold overF; rw [if_pos hk,if_pos hcs]; rfl
   rw [e0]
   clear e0
   have hT2:TxnAt w0 X tb c.cur hT:=by
    rcases P.txn with h|h
    ·exact h
    ·exact absurd h (fun h=>by have h1:=h.1; have h2:=h.2.1; rw [show (dropF c).own=c.own from rfl] at h2; rw [show (dropF c).opn=c.opn from rfl] at h1; simp_all)
   have hca:=hZ.cur.asked
   have hcp:=hZ.cur.parts
   have hgs:=groups_spec w0 X tb c.cur hT hT2 (by omega)
   have hgl:=groupsF_five hF
   obtain ⟨vr,va,vw',ap,cp,hr,ha,hw,rfl,k1,k2,k3,k4⟩:=id hT2
   refine zbF ?_
   refine yG M M (pv_neq_nilp M M) ?_
   refine zbO ?_
   refine yG M M (pv_eql_nilp M M) ?_
   refine zfE ?_
   rcases hk with hk|hk
   ·refine L_yes M M (pv_eql M M) hk ?_
    obtain ⟨ad,cd,hvd⟩:=P.dbts.shape
    simp only at hvd
    subst hvd
    have hdl:=hZ.db.1
    repeat (first|refine zF ?_|refine zB ?_|refine zE ?_|refine zK M M M ?_|refine zP ?_|refine zJ M ?_)
    refine yB [14,16,17,20] [0,1,2,3,4,5,6,7,8,9,10,11,12,13,14,15,16,17,18,19,20] (by kernel_rfl) M (by kernel_rfl) (by kernel_rfl) ?_
    refine zaF ?_
    refine W_call M M M M (zQ M M M) hgs (Kept.all _) ?_
    rintro _ _ ⟨k5,o5,rfl⟩
    obtain ⟨a5,c5,rfl⟩:=o5.shape
    refine ⟨zka,?_⟩
    have hnew:Rep.rd w0 (X+k5) (dbtF c) [.int .i64 c.cur.id,.slice ap c.cur.parts.length cp,.slice a5 (groupsF c.cur).length c5]:=⟨ap,cp,a5,c5,rfl,k4.mono M,o5.rd (X:=0) (R:=X)⟩
    repeat (refine yD M M M M (pv_build (vs:=[_,_,_]) (cells:=[_,_,_]) M M) ?_)
    refine W_eff M M M M (ev_buildSlice (vs:=[_]) (cells:=[_,_,_]) M M M M) (Kept.all _) ?_
    rintro _ _ ⟨bn,rfl,rfl⟩
    refine ⟨zka,?_⟩
    skip
    have hOd:OwL w0 (X+k5) c.doubts _ hD:=P.dbts.mono M
    refine W_eff M M M M (ev_appendL (X:=X+k5) (ns:=[dbtF c]) (h:=hD) M M hOd (rd_one M) (All2.one hnew) M M M M M (by rw [List.length_singleton]; omega)) (Kept.all _) ?_
    rintro v5 _ ⟨h5,ho5,rfl⟩
    obtain ⟨a6,c6,rfl⟩:=ho5.shape
    refine ⟨zka,?_⟩
    refine zaN ?_
    refine W_eff M M M M (ev_store M M M M M (c':=(_::_::_::_::_::_::_::_::_::_::_::_::_::_::_::_::_::_::_::_::_::_::_::_::_::_::_::_::_::_::_::_::_::_::_::_::_::_::[])) M) (.keep (.keep (.drop (by kernel_rfl) .nil))) ?_
    rintro _ _ rfl
    refine ⟨zka,?_⟩
    repeat (refine yI ?_)
    refine zbU ?_
    have P3:=hP.mono (L:=X+k5) (R:=k5) M
    have hP4:Parts w0 (X+k5) b { dropF c with coord:=none,doubts:=c.doubts++[dbtF c],own:=true } ⟨vmem,vr0,vsets,vmr,vg,ve,.slice a6 _ c6,vrq,vop,pB tb,vw,.pointer none,vou,van⟩ tb ps hG hE h5 hR _ 0 hO :=
     Parts.mk P3.mem P3.rngs0 P3.sets P3.mr P3.guess P3.ended ho5 P3.reqs P3.opn M (.inl (hT2.mono M)) P3.waits ⟨rfl,rfl⟩ P3.out P3.ansd
    refine zX M M (zQ M M M) (closing_spec w0 (X+k5) b tb { dropF c with coord:=none,doubts:=c.doubts++[dbtF c],own:=true } _ ⟨_,ps,hG,hE,h5,hR,_,0,hO,hP4,rfl⟩ 25 (fun _=>rfl)) ?_
    rintro _ _ hA
    repeat (refine zE ?_)
    exact ⟨[],_,_,trivial,hA.after.trans,yJ.out⟩
   ·refine L_no M M (pv_eql M M) (show ¬ c.kind=4 by omega) ?_
    refine zaG ?_
    refine L_yes M M (pv_eql M M) hk ?_
    obtain ⟨ad,cd,hvd⟩:=P.dbts.shape
    simp only at hvd
    subst hvd
    have hdl:=hZ.db.1
    refine zaY ?_
    refine yB [14,16,17,20] [0,1,2,3,4,5,6,7,8,9,10,11,12,13,14,15,16,17,18,19,20] (by kernel_rfl) M (by kernel_rfl) (by kernel_rfl) ?_
    refine zaF ?_
    refine W_call M M M M (zQ M M M) hgs (Kept.all _) ?_
    rintro _ _ ⟨k5,o5,rfl⟩
    obtain ⟨a5,c5,rfl⟩:=o5.shape
    refine ⟨zka,?_⟩
    have hnew:Rep.rd w0 (X+k5) (dbtF c) [.int .i64 c.cur.id,.slice ap c.cur.parts.length cp,.slice a5 (groupsF c.cur).length c5]:=⟨ap,cp,a5,c5,rfl,k4.mono M,o5.rd (X:=0) (R:=X)⟩
    repeat (refine yD M M M M (pv_build (vs:=[_,_,_]) (cells:=[_,_,_]) M M) ?_)
    refine W_eff M M M M (ev_buildSlice (vs:=[_]) (cells:=[_,_,_]) M M M M) (Kept.all _) ?_
    rintro _ _ ⟨bn,rfl,rfl⟩
    refine ⟨zka,?_⟩
    skip
    have hOd:OwL w0 (X+k5) c.doubts _ hD:=P.dbts.mono M
    refine W_eff M M M M (ev_appendL (X:=X+k5) (ns:=[dbtF c]) (h:=hD) M M hOd (rd_one M) (All2.one hnew) M M M M M (by rw [List.length_singleton]; omega)) (Kept.all _) ?_
    rintro v5 _ ⟨h5,ho5,rfl⟩
    obtain ⟨a6,c6,rfl⟩:=ho5.shape
    refine ⟨zka,?_⟩
    refine zaN ?_
    refine W_eff M M M M (ev_store M M M M M (c':=(_::_::_::_::_::_::_::_::_::_::_::_::_::_::_::_::_::_::_::_::_::_::_::_::_::_::_::_::_::_::_::_::_::_::_::_::_::_::[])) M) (.keep (.keep (.drop (by kernel_rfl) .nil))) ?_
    rintro _ _ rfl
    refine ⟨zka,?_⟩
    repeat (refine yI ?_)
    refine zbU ?_
    have P3:=hP.mono (L:=X+k5) (R:=k5) M
    have hP4:Parts w0 (X+k5) b { dropF c with coord:=none,doubts:=c.doubts++[dbtF c],own:=true } ⟨vmem,vr0,vsets,vmr,vg,ve,.slice a6 _ c6,vrq,vop,pB tb,vw,.pointer none,vou,van⟩ tb ps hG hE h5 hR _ 0 hO :=
     Parts.mk P3.mem P3.rngs0 P3.sets P3.mr P3.guess P3.ended ho5 P3.reqs P3.opn M (.inl (hT2.mono M)) P3.waits ⟨rfl,rfl⟩ P3.out P3.ansd
    refine zX M M (zQ M M M) (closing_spec w0 (X+k5) b tb { dropF c with coord:=none,doubts:=c.doubts++[dbtF c],own:=true } _ ⟨_,ps,hG,hE,h5,hR,_,0,hO,hP4,rfl⟩ 25 (fun _=>rfl)) ?_
    rintro _ _ hA
    repeat (refine zE ?_)
    exact ⟨[],_,_,trivial,hA.after.trans,yJ.out⟩
end
theorem at_openI {w0:World} {bk:Nat} (xs:List Int) (spare:List Value) {i:Nat} (hi:i<xs.length):At w0 (pt bk (.cells (xs.map (Value.int .i64)++spare).toArray 3 (0,0))) bk (0+i*1) [.int .i64 xs[i]]:=by
 intro j u hu
 match j,hu with
 | 0,hu =>
  obtain rfl:Value.int .i64 xs[i]=u:=by simpa using hu
  exact zS (R:=0) (by simpa using cells_getI xs spare hi)
theorem agains_snoc (c:Cl) (l:List Nat) (i:Nat):(l++[i]).foldl againF c=againF (l.foldl againF c) i:=by rw [List.foldl_append]; rfl
theorem again_some {c:Cl} {i:Nat} {r:Rq} (hr:c.reqs[i]?=some r):againF c i=if 0≤r.sent∧4≤c.clock - r.sent then sendF (guessF c r.group (guessAt c r.group % c.nodes+1)) i else c:=by unfold againF; rw [hr]
theorem again_core (c:Cl) (i:Nat):(againF c i).reqs.map core=c.reqs.map core∧(againF c i).clock=c.clock∧(againF c i).nodes=c.nodes∧(againF c i).out.length≤c.out.length+1∧(againF c i).guess.length=c.guess.length:=by
 unfold againF
 split
 ·exact ⟨rfl,rfl,rfl,Nat.le_succ _,rfl⟩
 ·split
  ·rename_i r hr hc
   obtain ⟨o,q,e,e1⟩:=sendF_same (guessF c r.group (guessAt c r.group % c.nodes+1)) i
   have ho:=sendF_out (guessF c r.group (guessAt c r.group % c.nodes+1)) i
   rw [e] at ho ⊢
   exact ⟨e1,rfl,rfl,ho,by show (c.guess.set _ _).length=_; rw [List.length_set]⟩
  ·exact ⟨rfl,rfl,rfl,Nat.le_succ _,rfl⟩
theorem agains_core :∀ (l:List Nat) (c:Cl),(l.foldl againF c).reqs.map core=c.reqs.map core∧(l.foldl againF c).clock=c.clock∧(l.foldl againF c).nodes=c.nodes∧(l.foldl againF c).out.length≤c.out.length+l.length∧(l.foldl againF c).guess.length=c.guess.length
 | [],c=>⟨rfl,rfl,rfl,Nat.le_refl _,rfl⟩
 | i::l,c=>by
  obtain ⟨a1,a2,a3,a4,a5⟩:=again_core c i
  obtain ⟨b1,b2,b3,b4,b5⟩:=agains_core l (againF c i)
  rw [List.length_cons]
  exact ⟨b1.trans a1,b2.trans a2,b3.trans a3,by show ((l.foldl againF (againF c i)).out.length)≤_; omega,b5.trans a5⟩
def tick2F (c:Cl):Cl:=if c.coord.isSome=true∧c.own=false∧20≤c.clock - c.started then startF c else c
def tick3F (c:Cl):Cl:=if c.busy=true∧60≤c.clock - c.since then overF c else c
theorem tickF_eq (c:Cl):tickF c=(doneF (tick3F (tick2F ((firstF c.reqs).foldl againF (tickedF c)))),endF (tick3F (tick2F ((firstF c.reqs).foldl againF (tickedF c))))):=rfl
theorem tick2F_ok {c:Cl} {n:Nat} (ha:Any c) (hf:Fine c) (hz:Sz n c):Any (tick2F c)∧Fine (tick2F c)∧Sz (n+29) (tick2F c):=by
 unfold tick2F
 split
 ·rename_i hc
  rcases ha with hw|hr
  ·exact ⟨.inl (startF_work hw hf hc.1).1,(startF_work hw hf hc.1).2,hz.start⟩
  ·rw [hr.2.2.2.2.1] at hc; cases hc.1
 ·exact ⟨ha,hf,hz.mono (by omega)⟩
theorem tick3F_ok {c:Cl} {n:Nat} (ha:Any c) (hf:Fine c) (hz:Sz n c) (hn:n+10≤100000000):Fine (tick3F c)∧Sz (n+10) (tick3F c):=by
 unfold tick3F
 split
 ·rename_i hc
  rcases ha with hw|hr
  ·exact ⟨(overF_said hf hw).2,hz.over hn hf⟩
  ·rw [hr.1] at hc; cases hc.1
 ·exact ⟨hf,hz.mono (by omega)⟩
section
variable (w0:World) (X:Hp) (b tb:Nat) (c:Cl) (S:Hp) (n:Nat)
theorem ticking_spec (hS:CliT w0 X b tb c S) (hZ:Sz n c) (hn:n+500≤100000000) (hF:Fine c) (hA:Any c) :
  Spec Tryz.prog w0 36 [pB b] (X+S) (fun r h'=>Fin w0 X b tb (tickF c).1 (tickF c).2 r h'):=by
 have hZ0:=hZ.ticked
 have hF0:Fine (tickedF c):=⟨hF.guess,hF.reqs,hF.rngs,hF.parts,hF.asked,hF.doubts,hF.coord,hF.nmem.1,by have:=hF.nmem.2; unfold tickedF; simp only; omega⟩
 have hA0:Any (tickedF c):=hA
 have hck:=hZ.bd.clock
 obtain ⟨⟨vmem,vr0,vsets,vmr,vg,ve,vd,vrq,vop,vow,vw,vco,vou,van⟩,ps,hG,hE,hD,hR,hT,hK,hO,P,rfl⟩:=hS
 obtain ⟨r1,r2,r3,r4,rfl⟩:=P.reqs
 have hP0:Parts w0 X b { c with clock:=c.clock+1 } ⟨vmem,vr0,vsets,vmr,vg,ve,vd,vrq,vop,vow,vw,vco,vou,van⟩ tb ps hG hE hD (r1+r2) hT hK hO :=
  Parts.mk P.mem P.rngs0 P.sets P.mr P.guess P.ended P.dbts P.reqs P.opn P.own P.txn P.waits P.coord P.out P.ansd
 have hgr:∀ r∈(tickedF c).reqs,r.group<5:=fun r hr=>(hF0.reqs (core r) (List.mem_map.2 ⟨r,hr,rfl⟩)).1
 have hrl:=hZ.bd.reqs
 have hfirst:=firsts_spec w0 X b tb { c with clock:=c.clock+1 } _ ps r1 r2 hG hE hD hT hK hO hP0 r3 r4 (by show c.reqs.length≤_; omega) hgr
 have hS0:CliP w0 X b tb ps (tickedF c) (cliC b (clL { c with clock:=c.clock+1 } ⟨vmem,vr0,vsets,vmr,vg,ve,vd,vrq,vop,vow,vw,vco,vou,van⟩)+(hG+(hE+(hD+((r1+r2)+(hT+(hK+hO))))))):=⟨_,hG,hE,hD,_,hT,hK,hO,hP0,rfl⟩
 have hlp:=r4.length
 have hll:(firstP ps c.reqs).length=(firstF c.reqs).length:=by simp [firstP]
 have hfl:=firstF_len c.reqs
 have h5:=firstF_five (l:=c.reqs) hgr
 rw [tickF_eq]
 obtain ⟨a1,f1,-⟩:=again_ok (firstF c.reqs) hA0 hF0
 have z1:Sz (n+6) ((firstF c.reqs).foldl againF (tickedF c)):=(Sz.agains _ hZ0).mono (by omega)
 refine zN Tryz.func36 M Tryz.ntmps36 Tryz.results36 M fun fr=>?_
 repeat (first|refine zF ?_|refine zB ?_|refine zE ?_|refine zK M M M ?_|refine zY M M M M M ?_|refine L_ld M M M M M ?_|refine L_add M M (by omega) (by omega) M M ?_|refine L_st M M M (c':=(_::_::_::_::_::_::_::_::_::_::_::_::_::_::_::_::_::_::_::_::_::_::_::_::_::_::_::_::_::_::_::_::_::_::_::_::_::_::[])) M M M M ?_|refine L_alloc (c:=[_,_,_]) M M M (fun _=>?_))
 rename_i b3
 refine zX M M (zQ M M M) hfirst ?_
 rintro vf _ ⟨hf,hof,rfl⟩
 obtain ⟨af,cf,rfl⟩:=hof.shape
 have hrd:RdL w0 hf (.slice af (firstP ps c.reqs).length cf) (firstP ps c.reqs):=hof.rdh
 refine zdG ?_
 refine hold_count (firstF c.reqs).length (fun k g L=>∃ (E S' R:Hp),g=[(0,pB b),(3,pB b3),(15,.slice af (firstP ps c.reqs).length cf),(16,.int .i64 (firstF c.reqs).length),(17,.int .i64 k)]∧CliP w0 (X+E) b tb ps (((firstF c.reqs).take k).foldl againF (tickedF c)) S' ∧
  L=X+E+S'+hf+pt b3 (.cells #[.int .i64 0,.int .i64 0,.slice none 0 0] 37 (0,0))+fr+R) _
  ⟨0,_,0,by rw [← hll],by rw [yA]; exact hS0,by rw [yA,yA]; exact yJ.out⟩ zsb ?_
 clear hP0 P hS0 r3 r4 hfirst
 rintro k g L hk ⟨E,S',R,rfl,hS',rfl⟩
 refine zaH ?_
 refine yF M M (pv_lss M M) (fun n1=>?_) (fun n1=>?_)
 ·have hx:k<(firstF c.reqs).length:=by omega
  obtain ⟨bq,oq,rfl,e,rfl,hat⟩:=hrd.at (i:=k) (by omega)
  have hi:=firstF_lt (List.getElem_mem hx)
  have hpk:ps[(firstF c.reqs)[k]]?=some (firstP ps c.reqs)[k]:=by
   simp only [firstP,List.getElem_map,List.getD_eq_getElem?_getD]
   rw [List.getElem?_eq_getElem (by omega)]; rfl
  have hsm:=agains_snoc (tickedF c) ((firstF c.reqs).take k) ((firstF c.reqs)[k])
  rw [← List.take_succ_eq_append_getElem hx] at hsm
  obtain ⟨k1,k2,k3,k4,k5⟩:=agains_core ((firstF c.reqs).take k) (tickedF c)
  obtain ⟨r',hr',hcr⟩:=core_get k1 (show (tickedF c).reqs[(firstF c.reqs)[k]]?=some c.reqs[(firstF c.reqs)[k]] from List.getElem?_eq_getElem hi)
  have hg':r'.group<5:=by
   have:=hgr _ (List.getElem_mem hi)
   have e:=congrArg Core.group hcr
   simp only [core] at e; omega
  have hz':OpSz r'.o:=by
   have:=hZ.bd.ops (core c.reqs[(firstF c.reqs)[k]]) (List.mem_map.2 ⟨_,List.getElem_mem hi,rfl⟩)
   rw [← hcr] at this; exact this
  have hZk:=Sz.agains ((firstF c.reqs).take k) hZ0
  rw [List.length_take] at hZk
  have hsent:=hZk.sent r' (List.mem_iff_getElem?.2 ⟨_,hr'⟩)
  have hclk:=hZk.bd.clock
  have hnod:=hZk.num.2.2.2.2.1
  have hgs:=guessAt_sz hZk r'.group
  have hout:=hZk.bd.out
  have hag:=again_some hr'
  rw [hag] at hsm
  clear hag k1 k2 k3 k4
  have hgl:(((firstF c.reqs).take k).foldl againF (tickedF c)).guess.length=5:=by rw [k5]; exact hF.guess
  clear k5
  generalize (firstP ps c.reqs)[k]=pk at hpk hat
  generalize ((firstF c.reqs).take k).foldl againF (tickedF c)=c1 at *
  generalize (firstF c.reqs)[k]=i at *
  obtain ⟨⟨um,ur0,us,umr,ug,ue,ud,urq,uop,uow,uw,uco,uou,uan⟩,jG,jE,jD,jR,jT,jK,jO,P',rfl⟩:=id hS'
  obtain ⟨s1,s2,s3,s4,rfl⟩:=P'.reqs
  obtain ⟨bk,capg,spg,hvg,rfl,hgset⟩:=P'.guess.openI (by intro e; rw [e] at hgl; cases hgl)
  simp only at hvg
  subst hvg
  have hg5:r'.group<c1.guess.length:=by rw [hgl]; exact hg'
  have hgat:=at_openI (w0:=w0) (bk:=bk) c1.guess spg hg5
  have hge:c1.guess[r'.group]=guessAt c1 r'.group:=by unfold guessAt; rw [List.getD_eq_getElem?_getD,List.getElem?_eq_getElem hg5]; rfl
  rw [hge] at hgat
  obtain ⟨p',h1,h2,e1,⟨b1,d1,b2,d2,b4,d4,b6,d6,hv,rfl,q1,q2,q3,q4,hh⟩,rfl,-,-⟩:=s4.get hr'
  obtain rfl:p'=pk:=by rw [hpk] at e1; exact (Option.some.inj e1).symm
  refine zaT ?_
  refine yB [] [0,1,2,3,4,5,6,7,8,9,10,11,12,13,14,15,16] (by kernel_rfl) M (by kernel_rfl) (by kernel_rfl) ?_
  refine zaF ?_
  refine W_dec M M M M (pv_geq M M) (fun n2=>?_) (fun n2=>?_)
  ·refine zaF ?_
   refine yD M M M M (pv_sub M M (by omega) (by omega)) ?_
   skip
   refine W_dec M M M M (pv_geq M M) (fun n3=>?_) (fun n3=>?_)
   ·rw [if_pos ⟨by omega,by omega⟩] at hsm
    refine zaD ?_
    repeat (first|refine zF ?_|refine zJ M ?_)
    refine yB [26] [0,1,2,3,4,5,6,7,8,9,10,11,12,13,14,15,16,17,18,19,20,21,22,23,24,25,26] (by kernel_rfl) M (by kernel_rfl) (by kernel_rfl) ?_
    repeat (first|refine yH M M M M M ?_|refine yD M M M M (zZ M M M) ?_|refine W_load M M M M (yE M) (zG M (zS M)) ?_|refine W_idx M M M (by omega) M M M ?_|refine W_at M M (by assumption) M M M M M ?_)
    refine yD M M M M (pv_rem_nn M M (by omega) (by omega)) ?_
    have hm1:=Int.emod_nonneg (guessAt c1 r'.group) (b:=c1.nodes) (by omega)
    have hm2:=Int.emod_lt_of_pos (guessAt c1 r'.group) (b:=c1.nodes) (by omega)
    generalize guessAt c1 r'.group % c1.nodes=gm at *
    repeat (first|refine yD M M M M (pv_add M M (by omega) (by omega)) ?_|refine W_idx M M M (by omega) M M M ?_)
    refine W_eff M M M M (ev_store (c:=c1.guess.map (Value.int .i64)++spg) M M M M (cells_getI c1.guess spg hg5) (cells_setI c1.guess spg hg5 (gm+1))) (.keep (.drop (by kernel_rfl) (.keep (.keep (.keep (.keep .nil)))))) ?_
    rintro _ _ rfl
    refine ⟨zka,?_⟩
    repeat (refine yI ?_)
    refine zbQ ?_
    have hPg:Parts w0 (X+E) b { c1 with guess:=c1.guess.set r'.group (gm+1) } ⟨um,ur0,us,umr,.slice (some ⟨bk,0,none⟩) c1.guess.length capg,ue,ud,urq,uop,uow,uw,uco,uou,uan⟩ tb ps _ jE jD _ jT jK jO :=
     Parts.mk P'.mem P'.rngs0 P'.sets P'.mr (hgset (c1.guess.set r'.group (gm+1)) (by simp)) P'.ended P'.dbts P'.reqs P'.opn P'.own P'.txn P'.waits P'.coord P'.out P'.ansd
    refine zX M M (zQ M M M) (sending_spec w0 (X+E) b tb { c1 with guess:=c1.guess.set r'.group (gm+1) } _ ps ⟨_,_,jE,jD,_,jT,jK,jO,hPg,rfl⟩ (by show c1.out.length≤_; omega) i r' hr' p' e1 hg' (by show (c1.guess.set r'.group (gm+1)).length=5; rw [List.length_set]; exact hgl) hz') ?_
    rintro _ _ ⟨E2,S2,h6,rfl⟩
    refine zaI ?_
    exact ⟨hx,_,zsb,E+E2,S2,_,rfl,by rw [hsm,← hadd_assoc]; exact h6,yJ.out⟩
   ·rw [if_neg (fun h=>n3 (by omega))] at hsm
    refine zaD ?_
    refine zaJ ?_
    exact ⟨hx,_,zsb,E,_,_,rfl,by rw [hsm]; exact hS',yJ.out⟩
  ·rw [if_neg (fun h=>n2 (by omega))] at hsm
   refine zaQ ?_
   refine zaJ ?_
   exact ⟨hx,_,zsb,E,_,_,rfl,by rw [hsm]; exact hS',yJ.out⟩
 ·obtain rfl:k=(firstF c.reqs).length:=by omega
  rw [List.take_length] at hS'
  generalize (firstF c.reqs).foldl againF (tickedF c)=c1 at *
  have hS1:=hS'.cli
  clear hS'
  obtain ⟨a2,f2,z2⟩:=tick2F_ok a1 f1 z1
  obtain ⟨f3,z3⟩:=tick3F_ok a2 f2 z2 (by omega)
  refine zbT ?_
  refine hold_join (fun g' L'=>Sub g' [(0,pB b),(3,pB b3),(91,.bool (decide (c1.coord.isSome=true∧c1.own=false∧20≤c1.clock - c1.started)))]∧L'=X+E+S'+hf+pt b3 (.cells #[.int .i64 0,.int .i64 0,.slice none 0 0] 37 (0,0))+fr+R) ?_ ?_
  ·have hclk:=z1.bd.clock
   have hst:=z1.num.2.1
   obtain ⟨⟨um,ur0,us,umr,ug,ue,ud,urq,uop,uow,uw,uco,uou,uan⟩,qs,jG,jE,jD,jR,jT,jK,jO,P',rfl⟩:=hS1
   have hvo:uow=ptrIf c1.own tb:=P'.own
   cases hco:c1.coord with
   | none =>
    obtain rfl:uco=.pointer none:=by have:=P'.coord; rw [hco] at this; exact this.1
    rw [decide_eq_false (fun h=>by cases h.1)]
    refine yB [] [0,1,2,3,4,5,6,7,8,9,10,11,12,13,14,15,16,17,18,19,20,21,22,23] (by kernel_rfl) M (by kernel_rfl) (by kernel_rfl) ?_
    refine zaF ?_
    refine yD M M M M (pv_neq_nilp M M) ?_
    refine zaQ ?_
    skip
    exact ⟨zsb,rfl⟩
   | some kk =>
    obtain ⟨kb,rfl⟩:∃ kb,uco=pB kb:=by have:=P'.coord; rw [hco] at this; obtain ⟨kb,e,-⟩:=this; exact ⟨kb,e⟩
    cases how:c1.own
    ·rw [how] at hvo
     simp only [ptrIf,cond_false] at hvo
     subst hvo
     refine yB [] [0,1,2,3,4,5,6,7,8,9,10,11,12,13,14,15,16,17,18,19,20,21,22,23] (by kernel_rfl) M (by kernel_rfl) (by kernel_rfl) ?_
     refine zaF ?_
     refine yD M M M M (pv_neq_nilp M M) ?_
     refine zaF ?_
     refine yD M M M M (pv_eql_nilp M M) ?_
     refine zaF ?_
     refine yD M M M M (pv_sub M M (by omega) (by omega)) ?_
     skip
     refine W_dec M M M M (pv_geq M M) (fun n3=>?_) (fun n3=>?_)
     ·rw [decide_eq_true ⟨rfl,rfl,by omega⟩]
      refine zaD ?_
      skip
      exact ⟨zsb,rfl⟩
     ·rw [decide_eq_false (fun h=>n3 (by omega))]
      refine zaD ?_
      skip
      exact ⟨zsb,rfl⟩
    ·rw [how] at hvo
     simp only [ptrIf,cond_true] at hvo
     subst hvo
     rw [decide_eq_false (fun h=>by cases h.2.1)]
     refine yB [] [0,1,2,3,4,5,6,7,8,9,10,11,12,13,14,15,16,17,18,19,20,21,22,23] (by kernel_rfl) M (by kernel_rfl) (by kernel_rfl) ?_
     refine zaF ?_
     refine yD M M M M (pv_neq_nilp M M) ?_
     refine zaF ?_
     refine yD M M M M (pv_eql_nilp M M) ?_
     refine zaQ ?_
     skip
     exact ⟨zsb,rfl⟩
  rintro g' _ ⟨hsub,rfl⟩
  refine hold_env hsub ?_
  clear hsub g'
  skip
  refine hold_join (fun g' L'=>∃ (E S' R:Hp),Sub g' [(0,pB b),(3,pB b3)]∧CliT w0 (X+E) b tb (tick2F c1) S'∧L'=X+E+S'+pt b3 (.cells #[.int .i64 0,.int .i64 0,.slice none 0 0] 37 (0,0))+fr+R) ?_ ?_
  ·refine hold_cond_d M (fun h=>?_) (fun h=>?_)
   ·refine zbQ ?_
    refine zX M M (zQ M M M) (starting_spec w0 (X+E) b tb c1 S' (n+6) hS1 z1 (by omega) h.1) ?_
    rintro _ _ ⟨E2,S2,h6,rfl⟩
    repeat (refine zE ?_)
    exact ⟨E+E2,S2,_,zsb,by unfold tick2F; rw [if_pos h,← hadd_assoc]; exact h6,yJ.out⟩
   ·repeat (refine zP ?_)
    exact ⟨E,S',_,zsb,by unfold tick2F; rw [if_neg h]; exact hS1,yJ.out⟩
  clear hS1
  rintro g' _ ⟨E,S',R,hsub,hS2,rfl⟩
  refine hold_env hsub ?_
  clear hsub g'
  generalize tick2F c1=c2 at *
  repeat (refine zF ?_)
  refine hold_join (fun g' L'=>Sub g' [(0,pB b),(3,pB b3),(109,.bool (decide (c2.busy=true∧60≤c2.clock - c2.since)))]∧L'=X+E+S'+pt b3 (.cells #[.int .i64 0,.int .i64 0,.slice none 0 0] 37 (0,0))+fr+R) ?_ ?_
  ·have hclk:=z2.bd.clock
   have hst:=z2.num.2.2.1
   obtain ⟨⟨um,ur0,us,umr,ug,ue,ud,urq,uop,uow,uw,uco,uou,uan⟩,qs,jG,jE,jD,jR,jT,jK,jO,P',rfl⟩:=hS2
   refine yB [] [0,1,2,3,4,5,6,7,8,9,10,11,12,13,14,15] (by kernel_rfl) M (by kernel_rfl) (by kernel_rfl) ?_
   refine zaF ?_
   cases hbu:c2.busy
   ·rw [decide_eq_false (fun h=>by cases h.1)]
    refine zaQ ?_
    skip
    exact ⟨zsb,rfl⟩
   ·refine zaF ?_
    refine yD M M M M (pv_sub M M (by omega) (by omega)) ?_
    skip
    refine W_dec M M M M (pv_geq M M) (fun n3=>?_) (fun n3=>?_)
    ·rw [decide_eq_true ⟨rfl,by omega⟩]
     refine zaD ?_
     skip
     exact ⟨zsb,rfl⟩
    ·rw [decide_eq_false (fun h=>n3 (by omega))]
     refine zaD ?_
     skip
     exact ⟨zsb,rfl⟩
  rintro g' _ ⟨hsub,rfl⟩
  refine hold_env hsub ?_
  clear hsub g'
  skip
  refine hold_join (fun g' L'=>∃ (E S' R:Hp),Sub g' [(0,pB b),(3,pB b3)]∧CliT w0 (X+E) b tb (tick3F c2) S'∧L'=X+E+S'+pt b3 (.cells #[.int .i64 0,.int .i64 0,.slice none 0 0] 37 (0,0))+fr+R) ?_ ?_
  ·refine hold_cond_d M (fun h=>?_) (fun h=>?_)
   ·have hw:Work c2:=a2.elim id fun hr=>by rw [hr.1] at h; cases h.1
    refine zbQ ?_
    refine zX M M (zQ M M M) (overing_spec w0 (X+E) b tb c2 S' (n+35) hS2 z2 (by omega) f2 hw) ?_
    rintro _ _ ⟨E2,S2,h6,rfl⟩
    repeat (refine zE ?_)
    exact ⟨E+E2,S2,_,zsb,by unfold tick3F; rw [if_pos h,← hadd_assoc]; exact h6,yJ.out⟩
   ·repeat (refine zP ?_)
    exact ⟨E,S',_,zsb,by unfold tick3F; rw [if_neg h]; exact hS2,yJ.out⟩
  clear hS2
  rintro g' _ ⟨E,S',R,hsub,hS3,rfl⟩
  refine hold_env hsub ?_
  clear hsub g'
  generalize tick3F c2=c3 at *
  refine zaW ?_
  refine zX M M (zQ M M M) (doneC_spec w0 (X+E) b tb c3 S' (n+45) hS3 z3.bd (by omega) f3) ?_
  rintro r h' ⟨E2,S2,ho,⟨vo,ad,cd,rfl,h1,h2⟩,h3,rfl⟩
  refine zcM ?_
  exact ⟨[_,_,_],_,_,⟨rfl,⟨_,rfl,zL (vs:=[_,_,_]) M M M⟩,rfl,trivial⟩,⟨E+E2,S2,ho,⟨vo,ad,cd,rfl,by rw [← hadd_assoc]; exact h1,by rw [← hadd_assoc]; exact h2⟩,by rw [← hadd_assoc]; exact h3,rfl⟩,yJ.out⟩
end
theorem getM_len (b:List Bt):(getM b).1.data.length≤b.length:=by
 unfold getM
 split
 ·simp [zeroM]
 ·split
  ·simp [zeroM]
  ·have h0:=getFr_len b
   unfold bodyM
   split
   ·simp [zeroM]
   ·split
    ·simp [zeroM]
    ·split
     ·simp [zeroM]
     ·rename_i q hq
      have h1:=takeS_len (⟨(getFr b).1,false⟩:RS) 8
      have h2:=takeS_len (intS ⟨(getFr b).1,false⟩) 8
      have h3:=takeS_len (intS (intS ⟨(getFr b).1,false⟩)) 8
      have:=readR_len (N:=b.length) hq (by simp [m0F]) (by simp [m0F]) (Nat.le_trans h3 (Nat.le_trans h2 (Nat.le_trans h1 h0)))
      split
      ·simp [zeroM]
      ·split
       ·simp [zeroM]
       ·exact this.2.1
theorem bodyM_check (s:RS) (h:(bodyM s).2=0):checkM (bodyM s).1=0:=by
 unfold bodyM at h ⊢
 by_cases h1:(intS (intS (intS s))).bad=true
 ·rw [if_pos h1] at h; exact absurd h (by decide)
 rw [if_neg h1] at h ⊢
 by_cases h2:fldsM (m0F s).kind=[]
 ·rw [if_pos h2] at h; exact absurd h (by decide)
 rw [if_neg h2] at h ⊢
 cases hr:readR (fldsM (m0F s).kind) (m0F s,intS (intS (intS s))) with
 | none=>rw [hr] at h; exact absurd h (by decide)
 | some q =>
  rw [hr] at h
  simp only at h ⊢
  by_cases h3:endV q.2≠0
  ·rw [if_pos h3] at h; exact absurd h (by decide)
  rw [if_neg h3] at h ⊢
  by_cases h4:checkM q.1≠0
  ·rw [if_pos h4] at h; exact absurd h h4
  rw [if_neg h4]
  simpa using h4
theorem getM_check (b:List Bt) (h:(getM b).2=0):checkM (getM b).1=0:=by
 unfold getM at h ⊢
 by_cases h1:(getFr b).2.2≠0
 ·rw [if_pos h1] at h; exact absurd h h1
 rw [if_neg h1] at h ⊢
 by_cases h2:(getFr b).2.1≠b.length
 ·rw [if_pos h2] at h; exact absurd h (by decide)
 rw [if_neg h2] at h ⊢
 exact bodyM_check _ h
theorem check_ranged {m:Msg} (h:checkM m=0):rangedF m=true:=by
 unfold checkM at h
 split at h
 ·cases h
 ·split at h
  ·cases h
  ·split at h
   ·cases h
   ·rename_i h3; simpa using h3
theorem check_nums {m:Msg} (h:checkM m=0):(m.kind=9∨m.kind=11→I64 m.index)∧0≤m.src:=by
 have hr:=check_ranged h
 unfold rangedF at hr
 simp only [Bool.and_eq_true,List.all_eq_true] at hr
 obtain ⟨⟨h1,-⟩,h2,-⟩:=hr
 refine ⟨fun hk=>?_,?_⟩
 ·have hf:(105:UInt8)∈fldsM m.kind:=by rcases hk with hk|hk<;>(rw [hk]; decide)
  have:=h2 _ hf
  have h3:inB (getL m 105) (loB 105) (hiB 105)=true:=by simpa [fineL] using this
  unfold inB at h3
  have h3:=of_decide_eq_true h3
  have e1:getL m 105=m.index:=rfl
  have e2:loB 105=0:=rfl
  have e3:hiB 105=1099511627776:=rfl
  unfold I64
  omega
 ·unfold inB at h1
  have:=of_decide_eq_true h1
  omega
def tookF (c:Cl) (m:Msg):Cl:=if m.kind=7 then toldF c m else if c.coord.isSome=true∧m.txn=c.about∧(m.kind=9∨m.kind=11) then stepF c m else c
theorem tookF_ok {c:Cl} {n:Nat} (ha:Any c) (hf:Fine c) (hz:Sz n c) (hn:n+50≤100000000) (m:Msg) (hm:m.kind=9∨m.kind=11→I64 m.index) (hs:0≤m.src) (hd:m.data.length≤1000000):Fine (tookF c m)∧Sz (n+50) (tookF c m):=by
 unfold tookF
 split
 ·exact ⟨(toldF_ok ha hf m).1,hz.told hn hf m hs hd⟩
 ·split
  ·rename_i hc
   rcases ha with hw|hr
   ·exact ⟨(stepF_ok hw hf hc.1 m).1,hz.step hn hf m (hm hc.2.2)⟩
   ·rw [hr.2.2.2.2.1] at hc; cases hc.1
  ·exact ⟨hf,hz.mono (by omega)⟩
theorem zdD {G G' : Prop} (h : G') (f : Zh G'→G:=by intro h; (repeat (first|refine zF ?_|refine zB ?_|refine zE ?_|refine zK M M M ?_|refine zM ?_|refine zJ M ?_|refine L_build (vs:=[]) (cells:=[_,_,_]) M M M M ?_|refine L_stA M (vs:=[_,_,_]) M M M M (c':=[_,_,_]) M M ?_)); exact h.o) : G:=f ⟨h⟩
theorem zdX {G G' : Prop} (h : G') (f : Zh G'→G:=by intro h; (repeat (first|refine yH M M M M M ?_|refine yD M M M M (zZ M M M) ?_|refine W_load M M M M (yE M) (zG M (zS M)) ?_|refine W_load M M M M (yE M) (zL (vs:=[_,_,_,_,_,_,_,_,_,_,_,_,_,_,_,_,_]) M M M) ?_)); exact h.o) : G:=f ⟨h⟩
section
variable (w0:World) (X:Hp) (b tb:Nat) (c:Cl) (S:Hp) (n:Nat)
theorem stepping_facts {c:Cl} (ha:Any c) (hc:c.coord.isSome=true):c.own=true∨(c.own=false∧∃ d∈c.doubts,d.id=c.about):=by
 rcases ha with ⟨_,_,h3⟩|⟨_,_,h3⟩
 ·rcases h3 with ⟨_,e,_⟩|⟨_,_,e,_⟩|⟨_,e,_,_⟩|⟨_,_,e,_,d,_⟩
  ·rw [e] at hc; cases hc
  ·rw [e] at hc; cases hc
  ·exact .inl e
  ·exact .inr ⟨e,d⟩
 ·rw [h3.2.2.1] at hc; cases hc
theorem taking_spec (hS:CliT w0 X b tb c S) (hZ:Sz n c) (hn:n+500≤1000000) (hF:Fine c) (hA:Any c) (src dst:Int) (bs:List Bt) (ad:Option Addr) (cd:Nat) (hb:RdL w0 X (.slice ad bs.length cd) bs) (hl:bs.length≤1000000) (hcap:bs.length≤cd) :
  Spec Tryz.prog w0 26 [pB b,.agg [.int .i64 src,.int .i64 dst,.slice ad bs.length cd].toArray] (X+S) (fun r h'=>Fin w0 X b tb (takeF c src dst bs).1 (takeF c src dst bs).2 r h'):=by
 have hget:=msgGet_spec w0 X _ bs hb (by omega) (by rintro a n c e; cases e; exact hcap)
 have hno:∀ {r:Value},r=.tuple #[.slice none 0 0,.agg [.int .i64 0,.int .i64 0,.slice none 0 0].toArray,.bool false]→takeF c src dst bs=(c,⟨[],ans0,false⟩)→Fin w0 X b tb (takeF c src dst bs).1 (takeF c src dst bs).2 r (X+S):=by
  rintro r rfl e
  rw [e]
  exact ⟨0,S,0,⟨.slice none 0 0,none,0,rfl,OwL.nil _ _,RdL.nil _ _ _⟩,by rw [yA]; exact hS,by rw [yA,yA]⟩
 have hck:=fun h=>getM_check bs h
 have hml:=getM_len bs
 have hT0:takeF c src dst bs=if dst≠c.addr∨(getM bs).2≠0∨(getM bs).1.src≠src∨(getM bs).1.dst≠dst then (c,⟨[],ans0,false⟩) else (doneF (tookF c (getM bs).1),endF (tookF c (getM bs).1)):=rfl
 generalize takeF c src dst bs=tk at *
 generalize getM bs=gm at *
 obtain ⟨m,e⟩:=gm
 simp only at hck hml hT0 hget ⊢
 have hS9:=id hS
 obtain ⟨⟨vmem,vr0,vsets,vmr,vg,ve,vd,vrq,vop,vow,vw,vco,vou,van⟩,ps,hG,hE,hD,hR,hT,hK,hO,P,rfl⟩:=hS
 refine zN Tryz.func26 M Tryz.ntmps26 Tryz.results26 M fun fr=>?_
 repeat (first|refine zF ?_|refine zB ?_|refine zE ?_|refine zK M M M ?_|refine zY M M M M M ?_|refine L_ld M M M M M ?_|refine L_box M (c:=[_,_,_]) M M M (fun _=>?_)|refine L_alloc (c:=[_,_,_]) M M M (fun _=>?_))
 refine zX M M (zQ M M M) hget ?_
 rintro _ _ ⟨a1,a2,c1,c2,G,rfl,hre,hrd,rfl⟩
 repeat (first|refine zF ?_|refine zE ?_|refine zK M M M ?_|refine L_stA M (vs:=[_,_,_,_,_,_,_,_,_,_,_,_,_,_,_,_,_]) M M M M (c':=[_,_,_,_,_,_,_,_,_,_,_,_,_,_,_,_,_]) M M ?_|refine L_alloc (c:=[_,_,_,_,_,_,_,_,_,_,_,_,_,_,_,_,_]) M M M (fun _=>?_))
 rename_i b5 b7
 refine yB [] [0,1,2,3,4,5,6,7,8,9,10,11,12,13,14,15,16,17,18,19,20,21,22,23,24] (by kernel_rfl) M (by kernel_rfl) (by kernel_rfl) ?_
 refine zaF ?_
 refine W_dec M M M M (pv_neq M M) (fun n1=>?_) (fun n1=>?_)
 ·refine zaQ ?_
  refine zdD ?_
  exact ⟨[_,_,_],X+_,_,⟨rfl,⟨_,rfl,zL (vs:=[_,_,_]) M M M⟩,rfl,trivial⟩,hno M (by rw [hT0,if_pos (.inl n1)]),yJ.out⟩
 repeat (refine yH M M M M M ?_)
 refine W_dec M M M M (pv_neq M M) (fun n2=>?_) (fun n2=>?_)
 ·refine zaQ ?_
  refine zdD ?_
  exact ⟨[_,_,_],X+_,_,⟨rfl,⟨_,rfl,zL (vs:=[_,_,_]) M M M⟩,rfl,trivial⟩,hno M (by rw [hT0,if_pos (.inr (.inl n2))]),yJ.out⟩
 refine zaF ?_
 refine W_dec M M M M (pv_neq M M) (fun n3=>?_) (fun n3=>?_)
 ·refine zaQ ?_
  refine zdD ?_
  exact ⟨[_,_,_],X+_,_,⟨rfl,⟨_,rfl,zL (vs:=[_,_,_]) M M M⟩,rfl,trivial⟩,hno M (by rw [hT0,if_pos (.inr (.inr (.inl n3)))]),yJ.out⟩
 refine zaF ?_
 refine W_dec M M M M (pv_neq M M) (fun n4=>?_) (fun n4=>?_)
 ·refine zaD ?_
  refine zdD ?_
  exact ⟨[_,_,_],X+_,_,⟨rfl,⟨_,rfl,zL (vs:=[_,_,_]) M M M⟩,rfl,trivial⟩,hno M (by rw [hT0,if_pos (.inr (.inr (.inr n4)))]),yJ.out⟩
 rw [if_neg (by rintro (h|h|h|h)<;>contradiction)] at hT0
 obtain rfl:e=0:=by simpa using n2
 subst hT0
 clear hno
 obtain ⟨hm1,hm2⟩:=check_nums (hck rfl)
 obtain ⟨f2,z2⟩:=tookF_ok hA hF hZ (by omega) m hm1 hm2 (by omega)
 have hS2:CliT w0 (X+G) b tb c _:=hS9.mono M
 have hrd2:RdL w0 (X+G) (.slice a2 m.data.length c2) m.data:=hrd.mono (hadd_comm _ _)
 clear hget hck
 refine zaD ?_
 repeat (first|refine zF ?_|refine zP ?_|refine zI M ?_)
 refine hold_join (fun g' L'=>∃ (E S' R:Hp),Sub g' [(0,pB b),(5,pB b5)]∧CliT w0 (X+E) b tb (tookF c m) S'∧L'=X+E+S'+pt b5 (.cells #[.int .i64 0,.int .i64 0,.slice none 0 0] 37 (0,0))+fr+R) ?_ ?_
 ·repeat (first|refine zF ?_|refine zR ?_|refine zB ?_|refine zY M M M M M ?_|refine L_ld M M M M M ?_)
  refine yF M M (pv_eql M M) (fun k1=>?_) (fun k1=>?_)
  ·have et:tookF c m=toldF c m:=by unfold tookF; rw [if_pos k1]
   rw [et]
   refine zeY ?_
   refine zX M M (zQ M M M) (telling_spec w0 (X+G) b tb c _ n hS2 hZ (by omega) hF hA m _ a2 c2 hrd2 (by omega) hm2) ?_
   rintro _ _ ⟨E2,S2,h6,rfl⟩
   repeat (refine zE ?_)
   exact ⟨G+E2,S2,_,zsb,by rw [← hadd_assoc]; exact h6,yJ.out⟩
  have et:tookF c m=if c.coord.isSome=true∧m.txn=c.about∧(m.kind=9∨m.kind=11) then stepF c m else c:=by unfold tookF; rw [if_neg k1]
  rw [et]
  clear et f2 z2
  have hcv:∃ q,vco=.pointer q∧q.isSome=c.coord.isSome:=by
   have:=P.coord
   cases hc:c.coord with
   | none=>rw [hc] at this; exact ⟨_,this.1,rfl⟩
   | some k=>rw [hc] at this; obtain ⟨kb,e,-⟩:=this; exact ⟨_,e,rfl⟩
  obtain ⟨q,rfl,hq⟩:=hcv
  refine zcC ?_
  rcases q with _|qa
  ·have hcs:c.coord.isSome=false:=hq.symm
   refine yB [] [0,1,2,3,4,5,6,7,8,9,10,11,12,13,14,15,16,17,18,19,20,21,22,23,24] (by kernel_rfl) M (by kernel_rfl) (by kernel_rfl) ?_
   refine zaF ?_
   refine yD M M M M (pv_neq_nilp M M) ?_
   have hx:¬ (c.coord.isSome=true∧m.txn=c.about∧(m.kind=9∨m.kind=11)):=fun h=>by rw [hcs] at h; cases h.1
   rw [if_neg hx]
   refine zaQ ?_
   refine zcL ?_
   exact ⟨G,_,_,zsb,hS2,yJ.out⟩
  ·have hcs:c.coord.isSome=true:=hq.symm
   refine yB [] [0,1,2,3,4,5,6,7,8,9,10,11,12,13,14,15,16,17,18,19,20,21,22,23,24] (by kernel_rfl) M (by kernel_rfl) (by kernel_rfl) ?_
   refine zaF ?_
   refine yD M M M M (pv_neq_nilp M M) ?_
   refine zaF ?_
   refine W_dec M M M M (pv_eql M M) (fun n5=>?_) (fun n5=>?_)
   ·refine zaF ?_
    refine W_dec M M M M (pv_eql M M) (fun n6=>?_) (fun n6=>?_)
    ·rw [if_pos ⟨hcs,n5,(.inl n6)⟩]
     refine zaQ ?_
     repeat (first|refine zF ?_|refine zJ M ?_)
     obtain ⟨kk,hkk⟩:=Option.isSome_iff_exists.1 hcs
     obtain ⟨kb,hqb,hKA⟩:∃ kb,(Value.pointer (some qa))=pB kb∧CooAt w0 kb kk hK:=by have:=P.coord; rw [hkk] at this; exact this
     have hqa:qa=⟨kb,0,none⟩:=by simpa using hqb
     subst hqa
     have hKz:=hZ.co kk hkk
     obtain ⟨s1,s2,s3⟩:=stepC_sz hKz m (hm1 (.inl n6))
     have hstep:=coStep_spec w0 kb kk m (.slice a1 m.entries.length c1) (.slice a2 m.data.length c2) hK hKA hKz.acc (by have:=hKz.parts; omega) (Nat.le_trans (getA_len hKz.promised m.part) (by omega)) (Nat.le_trans (getA_len hKz.accepted (m.part,m.ballot,m.value)) (by omega))
     have es:stepF c m=if valueC (stepC kk m).1≠0 then comeF (putsF { c with coord:=some (stepC kk m).1 } (stepC kk m).2) (valueC (stepC kk m).1) else putsF { c with coord:=some (stepC kk m).1 } (stepC kk m).2:=by unfold stepF; rw [hkk]
     rw [es]
     clear es
     refine yB [6,7] [0,1,2,3,4,5,6,7] (by kernel_rfl) M (by kernel_rfl) (by kernel_rfl) ?_
     refine zdX ?_
     refine W_call M M M M (zQ M M M) hstep (Kept.all _) ?_
     rintro vm _ ⟨ho2,S2,hoo,hK2,rfl⟩
     refine ⟨zka,?_⟩
     have P3:=P.mono (L:=X+G+ho2) (R:=G+ho2) (by rw [hadd_assoc])
     generalize hsc:stepC kk m=sc at *
     obtain ⟨k2,l2⟩:=sc
     simp only at s1 s2 s3 hoo hK2 ⊢
     obtain ⟨am,cm,rfl⟩:=hoo.shape
     have hP3:Parts w0 (X+G+ho2) b { c with coord:=some k2 } ⟨vmem,vr0,vsets,vmr,vg,ve,vd,vrq,vop,vow,vw,pB kb,vou,van⟩ tb ps hG hE hD hR hT S2 hO :=
      Parts.mk P3.mem P3.rngs0 P3.sets P3.mr P3.guess P3.ended P3.dbts P3.reqs P3.opn P3.own P3.txn P3.waits ⟨kb,rfl,hK2⟩ P3.out P3.ansd
     have hout:=hZ.bd.out
     have hpt:=putting_all_spec w0 (X+G+ho2) b tb { c with coord:=some k2 } _ ps ⟨_,hG,hE,hD,hR,hT,S2,hO,hP3,rfl⟩ l2 am cm (hoo.rd (X:=0) (R:=X+G)) (by show c.out.length+l2.length≤_; omega) (fun x hx=>by rw [(s3 x hx).1,(s3 x hx).2]; simp)
     skip
     refine W_call M M M M (zQ M M M) hpt (.drop (by kernel_rfl) (.drop (by kernel_rfl) .nil)) ?_
     rintro _ _ ⟨E3,S3,h3,rfl⟩
     refine ⟨trivial,?_⟩
     have hfacts:=stepping_facts hA hcs
     have hz4:Sz (n+8) (putsF { c with coord:=some k2 } l2):=((((hZ.mono (Nat.le_succ n)).coos (k:=some k2) (fun k' e=>by cases e; exact s1)).puts l2).mono (by omega))
     have hf4:Fine (putsF { c with coord:=some k2 } l2):=(Fine.same (c:={ c with coord:=some k2 }) ⟨hF.guess,hF.reqs,hF.rngs,hF.parts,hF.asked,hF.doubts,fun _ e=>hF.coord hcs e,hF.nmem⟩ (putsF_same l2 _).1)
     have hk4:(putsF { c with coord:=some k2 } l2).coord=some k2∧(putsF { c with coord:=some k2 } l2).own=c.own∧(putsF { c with coord:=some k2 } l2).doubts=c.doubts∧(putsF { c with coord:=some k2 } l2).about=c.about:=by
      obtain ⟨o,q,e,-⟩:=(putsF_same l2 { c with coord:=some k2 }).1
      rw [e]; exact ⟨rfl,rfl,rfl,rfl⟩
     have h3':=h3.cli
     clear hpt hP3 P3 hstep hsc
     generalize putsF { c with coord:=some k2 } l2=c4 at *
     obtain ⟨⟨um,ur0,us,umr,ug,ue,ud,urq,uop,uow,uw,uco,uou,uan⟩,jG,jE,jD,jR,jT,jK,jO,P4,rfl⟩:=h3
     obtain ⟨kb4,hub,hKA4⟩:∃ kb,uco=pB kb∧CooAt w0 kb k2 jK:=by have:=P4.coord; rw [hk4.1] at this; exact this
     subst hub
     repeat (refine yI ?_)
     refine zcG ?_
     refine zX M M (zQ M M M) (coValue_spec w0 kb4 k2 jK hKA4 (by have:=s1.parts; omega)) ?_
     rintro _ _ ⟨rfl,rfl⟩
     refine zaC ?_
     refine yF M M (pv_neq M M) (fun n8=>?_) (fun n8=>?_)
     ·rw [if_pos n8]
      refine zaU ?_
      refine zX M M (zQ M M M) (coming_spec w0 (X+G+ho2+E3) b tb c4 _ (n+8) h3' hz4 (by omega) hf4 (valueC k2) (valueC_sz k2) (by rw [hk4.2.1,hk4.2.2.1,hk4.2.2.2]; exact hfacts)) ?_
      rintro _ _ ⟨E5,S5,h5,rfl⟩
      repeat (refine zE ?_)
      exact ⟨G+ho2+E3+E5,S5,_,zsb,by rw [← hadd_assoc,← hadd_assoc,← hadd_assoc]; exact h5,yJ.out⟩
     ·rw [if_neg n8]
      refine zaZ ?_
      exact ⟨G+ho2+E3,_,_,zsb,by rw [← hadd_assoc,← hadd_assoc]; exact h3',yJ.out⟩
    ·refine zaF ?_
     refine W_dec M M M M (pv_eql M M) (fun n7=>?_) (fun n7=>?_)
     ·rw [if_pos ⟨hcs,n5,(.inr n7)⟩]
      refine zaD ?_
      repeat (first|refine zF ?_|refine zJ M ?_)
      obtain ⟨kk,hkk⟩:=Option.isSome_iff_exists.1 hcs
      obtain ⟨kb,hqb,hKA⟩:∃ kb,(Value.pointer (some qa))=pB kb∧CooAt w0 kb kk hK:=by have:=P.coord; rw [hkk] at this; exact this
      have hqa:qa=⟨kb,0,none⟩:=by simpa using hqb
      subst hqa
      have hKz:=hZ.co kk hkk
      obtain ⟨s1,s2,s3⟩:=stepC_sz hKz m (hm1 (.inr n7))
      have hstep:=coStep_spec w0 kb kk m (.slice a1 m.entries.length c1) (.slice a2 m.data.length c2) hK hKA hKz.acc (by have:=hKz.parts; omega) (Nat.le_trans (getA_len hKz.promised m.part) (by omega)) (Nat.le_trans (getA_len hKz.accepted (m.part,m.ballot,m.value)) (by omega))
      have es:stepF c m=if valueC (stepC kk m).1≠0 then comeF (putsF { c with coord:=some (stepC kk m).1 } (stepC kk m).2) (valueC (stepC kk m).1) else putsF { c with coord:=some (stepC kk m).1 } (stepC kk m).2:=by unfold stepF; rw [hkk]
      rw [es]
      clear es
      refine yB [6,7] [0,1,2,3,4,5,6,7] (by kernel_rfl) M (by kernel_rfl) (by kernel_rfl) ?_
      refine zdX ?_
      refine W_call M M M M (zQ M M M) hstep (Kept.all _) ?_
      rintro vm _ ⟨ho2,S2,hoo,hK2,rfl⟩
      refine ⟨zka,?_⟩
      have P3:=P.mono (L:=X+G+ho2) (R:=G+ho2) (by rw [hadd_assoc])
      generalize hsc:stepC kk m=sc at *
      obtain ⟨k2,l2⟩:=sc
      simp only at s1 s2 s3 hoo hK2 ⊢
      obtain ⟨am,cm,rfl⟩:=hoo.shape
      have hP3:Parts w0 (X+G+ho2) b { c with coord:=some k2 } ⟨vmem,vr0,vsets,vmr,vg,ve,vd,vrq,vop,vow,vw,pB kb,vou,van⟩ tb ps hG hE hD hR hT S2 hO :=
       Parts.mk P3.mem P3.rngs0 P3.sets P3.mr P3.guess P3.ended P3.dbts P3.reqs P3.opn P3.own P3.txn P3.waits ⟨kb,rfl,hK2⟩ P3.out P3.ansd
      have hout:=hZ.bd.out
      have hpt:=putting_all_spec w0 (X+G+ho2) b tb { c with coord:=some k2 } _ ps ⟨_,hG,hE,hD,hR,hT,S2,hO,hP3,rfl⟩ l2 am cm (hoo.rd (X:=0) (R:=X+G)) (by show c.out.length+l2.length≤_; omega) (fun x hx=>by rw [(s3 x hx).1,(s3 x hx).2]; simp)
      skip
      refine W_call M M M M (zQ M M M) hpt (.drop (by kernel_rfl) (.drop (by kernel_rfl) .nil)) ?_
      rintro _ _ ⟨E3,S3,h3,rfl⟩
      refine ⟨trivial,?_⟩
      have hfacts:=stepping_facts hA hcs
      have hz4:Sz (n+8) (putsF { c with coord:=some k2 } l2):=((((hZ.mono (Nat.le_succ n)).coos (k:=some k2) (fun k' e=>by cases e; exact s1)).puts l2).mono (by omega))
      have hf4:Fine (putsF { c with coord:=some k2 } l2):=(Fine.same (c:={ c with coord:=some k2 }) ⟨hF.guess,hF.reqs,hF.rngs,hF.parts,hF.asked,hF.doubts,fun _ e=>hF.coord hcs e,hF.nmem⟩ (putsF_same l2 _).1)
      have hk4:(putsF { c with coord:=some k2 } l2).coord=some k2∧(putsF { c with coord:=some k2 } l2).own=c.own∧(putsF { c with coord:=some k2 } l2).doubts=c.doubts∧(putsF { c with coord:=some k2 } l2).about=c.about:=by
       obtain ⟨o,q,e,-⟩:=(putsF_same l2 { c with coord:=some k2 }).1
       rw [e]; exact ⟨rfl,rfl,rfl,rfl⟩
      have h3':=h3.cli
      clear hpt hP3 P3 hstep hsc
      generalize putsF { c with coord:=some k2 } l2=c4 at *
      obtain ⟨⟨um,ur0,us,umr,ug,ue,ud,urq,uop,uow,uw,uco,uou,uan⟩,jG,jE,jD,jR,jT,jK,jO,P4,rfl⟩:=h3
      obtain ⟨kb4,hub,hKA4⟩:∃ kb,uco=pB kb∧CooAt w0 kb k2 jK:=by have:=P4.coord; rw [hk4.1] at this; exact this
      subst hub
      repeat (refine yI ?_)
      refine zcG ?_
      refine zX M M (zQ M M M) (coValue_spec w0 kb4 k2 jK hKA4 (by have:=s1.parts; omega)) ?_
      rintro _ _ ⟨rfl,rfl⟩
      refine zaC ?_
      refine yF M M (pv_neq M M) (fun n8=>?_) (fun n8=>?_)
      ·rw [if_pos n8]
       refine zaU ?_
       refine zX M M (zQ M M M) (coming_spec w0 (X+G+ho2+E3) b tb c4 _ (n+8) h3' hz4 (by omega) hf4 (valueC k2) (valueC_sz k2) (by rw [hk4.2.1,hk4.2.2.1,hk4.2.2.2]; exact hfacts)) ?_
       rintro _ _ ⟨E5,S5,h5,rfl⟩
       repeat (refine zE ?_)
       exact ⟨G+ho2+E3+E5,S5,_,zsb,by rw [← hadd_assoc,← hadd_assoc,← hadd_assoc]; exact h5,yJ.out⟩
      ·rw [if_neg n8]
       refine zaZ ?_
       exact ⟨G+ho2+E3,_,_,zsb,by rw [← hadd_assoc,← hadd_assoc]; exact h3',yJ.out⟩
     ·have hx:¬ (c.coord.isSome=true∧m.txn=c.about∧(m.kind=9∨m.kind=11)):=fun h=>h.2.2.elim n6 n7
      rw [if_neg hx]
      refine zaD ?_
      refine zcL ?_
      exact ⟨G,_,_,zsb,hS2,yJ.out⟩
   ·have hx:¬ (c.coord.isSome=true∧m.txn=c.about∧(m.kind=9∨m.kind=11)):=fun h=>n5 h.2.1
    rw [if_neg hx]
    refine zaQ ?_
    refine zcL ?_
    exact ⟨G,_,_,zsb,hS2,yJ.out⟩
 ·rintro g' _ ⟨E,S',R,hsub,hS3,rfl⟩
  refine hold_env hsub ?_
  clear hsub g'
  generalize tookF c m=c3 at *
  refine zaW ?_
  refine zX M M (zQ M M M) (doneC_spec w0 (X+E) b tb c3 S' (n+50) hS3 z2.bd (by omega) f2) ?_
  rintro r h' ⟨E2,S2,ho,⟨vo,ad,cd,rfl,h1,h2⟩,h3,rfl⟩
  refine zcM ?_
  exact ⟨[_,_,_],_,_,⟨rfl,⟨_,rfl,zL (vs:=[_,_,_]) M M M⟩,rfl,trivial⟩,⟨E+E2,S2,ho,⟨vo,ad,cd,rfl,by rw [← hadd_assoc]; exact h1,by rw [← hadd_assoc]; exact h2⟩,by rw [← hadd_assoc]; exact h3,rfl⟩,yJ.out⟩
end
theorem take_hm (bs:List Bt) (hl:bs.length≤1000000):(getM bs).2=0→((getM bs).1.kind=9∨(getM bs).1.kind=11→I64 (getM bs).1.index)∧0≤(getM bs).1.src∧(getM bs).1.data.length≤1000000:=by
 intro h
 obtain ⟨h1,h2⟩:=check_nums (getM_check bs h)
 exact ⟨h1,h2,Nat.le_trans (getM_len bs) hl⟩
theorem bigM_small {m:Msg} (h:bigMF m 100 16384=false):m.entries.length≤100∧(∀ e∈m.entries,e.data.length≤20000)∧m.data.length≤20000:=by
 unfold bigMF bigEF at h
 simp only [Bool.or_eq_false_iff,decide_eq_false_iff_not,Nat.not_lt] at h
 obtain ⟨⟨h1,h2⟩,h3⟩:=h
 refine ⟨h1,fun e he=>?_,by omega⟩
 obtain ⟨k,hk,rfl⟩:=List.getElem_of_mem he
 have h4:=sumB_take (n:=16384) hk
 have h5:=sumB_le 16384 m.entries (k+1)
 omega
end Sl
end Go.Proofs.YtfahijncpmlhjaaGreat
namespace Go.Proofs.YtfahijncpmlhjaaGreat
open Go Go.RowKit
namespace Sl
def HoldVM (P:Program) (n:Nat) (w0:World) (ops:Array Oper) (eff:List Nat) (j d:Nat) (t:TypeId) (W:Watched) (listed:Array Bool) (s:List Nat) (Q:Post) (g:Env) (L:Hp):Prop :=
 HoldA P n w0 ops eff j W listed s Q g L∧∀ b,HoldW P n w0 ops eff W (listed.setIfInBounds j true) (s.erase j) Q ((d,.map (some b))::g) (pt b (.map #[] 0)+L)
section
variable {P:Program} {n:Nat} {w0:World} {Q:Post} {g:Env} {L:Hp} {ops:Array Oper} {eff:List Nat} {W:Watched} {listed:Array Bool} {s:List Nat} {j d:Nat} {t:TypeId}
theorem VM_take {i:Nat} {o:Oper} {v:Value} (S:World→Prop) (W':Watched) (hij:(i==j)=false) (hi:ops[i]?=some o) (heff:eff.contains i=false) (hd:o.dst.all (·<n)=true) (hdd:o.dst.all (· != d)=true)
  (hW':∀ p∈(i,S)::Watched.at P W,p∈Watched.at P W'∨∀ w,p.2 w) (hS:∀ w,St w0 w L→S w) (hlW:∀ L',(∀ w,St w0 w L'→St w0 w L)→(∀ p∈W,Loads P w0 L' p.2.1 p.2.2.1 p.2.2.2)→∀ p∈W',Loads P w0 L' p.2.1 p.2.2.1 p.2.2.2)
  (hy:∀ a,Fits n a g→YieldsIf P ops S o v a) (hyB:∀ b a,Fits n a ((d,.map (some b))::g)→YieldsIf P ops S o v a)
  (hk:HoldVM P n w0 ops eff j d t W' (listed.setIfInBounds i true) s Q (putE g o.dst v) L):HoldVM P n w0 ops eff j d t W listed (i::s) Q g L:=by
 have hne:i≠j:=by simpa using hij
 have her:(i::s).erase j=i::s.erase j:=by rw [List.erase_cons_tail]; simpa using hij
 constructor
 ·intro hok hokB hc hq hsel hW a w ha hst
  simp only [okV,hij,heff,Bool.and_eq_true,Bool.false_eq_true,if_false] at hok
  obtain ⟨⟨h1,h2⟩,h3⟩:=hok
  have hr:i∈Region.ready .any ops listed:=by simpa using h1
  rw [her] at hokB
  simp only [okOrder,Bool.and_eq_true] at hokB
  have hB:=hokB.2
  rw [setIf_comm hne.symm] at hB
  have H:=hk.1 h3 hB (hc.set hr) hq hsel (hlW L (fun _ h=>h) hW) (a.put o.dst v) w (ha.put hd v) hst
  exact WG_first hi (Region.noSelect_spec hsel) (fun c a w=>lift_np c a w) s.length (W.at P) listed a w hc
   (fun k ok hok' hne' hun hno=>Region.free_spec hi h2 k ok hok' hne' hun hno) hr (hy a ha) (hS w hst) (watch_holds hW hst) (WG_sub _ _ _ _ _ _ hW' H)
 ·intro b
  rw [her]
  have hkb:=hk.2 b
  rw [setIf_comm hne] at hkb
  refine W_take S W' hi heff hd hW' (fun w hw=>hS w hw.right) (fun hW=>hlW _ (fun w hw=>hw.right) hW) (hyB b) (holdW_env (sub_putE hdd) hkb)
theorem VM_pure {i:Nat} {dst:Option Nat} {op:Op} {ty:TypeId} {pos:String} {af:Array Edge} (hi:ops[i]?=some ⟨dst,op,ty,pos,af,none⟩) {v:Value} (h:PV P g op v) (hB:∀ p,PV P ((d,p)::g) op v) (hij:(i==j)=false) (heff:eff.contains i=false) (hd:dst.all (·<n)=true) (hdd:dst.all (· != d)=true)
  (hk:HoldVM P n w0 ops eff j d t W (listed.setIfInBounds i true) s Q (putE g dst v) L):HoldVM P n w0 ops eff j d t W listed (i::s) Q g L :=
 VM_take (fun _=>True) W hij hi heff hd hdd (fun p hp=>by rcases List.mem_cons.1 hp with rfl|hp; exact .inr fun _=>trivial; exact .inl hp) (fun _ _=>trivial) (fun _ _ h=>h)
  (fun a ha=>.inl ⟨wanted_of (o:=⟨dst,op,ty,pos,af,none⟩) (g:=g) ha M,fun w _=>h ⟨dst,op,ty,pos,af,none⟩ a w n M ha⟩)
  (fun b a ha=>.inl ⟨wanted_of (o:=⟨dst,op,ty,pos,af,none⟩) (g:=(d,.map (some b))::g) ha M,fun w _=>hB _ ⟨dst,op,ty,pos,af,none⟩ a w n M ha⟩) hk
theorem VM_of {i:Nat} {dst:Option Nat} {op:Op} {ty:TypeId} {pos:String} {af:Array Edge} (hi:ops[i]?=some ⟨dst,op,ty,pos,af,none⟩) {v:Value} (h:pureV g op=some v) (hB:∀ p,pureV ((d,p)::g) op=some v) (hij:(i==j)=false) (heff:eff.contains i=false) (hd:dst.all (·<n)=true) (hdd:dst.all (· != d)=true)
  (hk:HoldVM P n w0 ops eff j d t W (listed.setIfInBounds i true) s Q (putE g dst v) L):HoldVM P n w0 ops eff j d t W listed (i::s) Q g L:=VM_pure hi (pv_of h) (fun p=>pv_of (hB p)) hij heff hd hdd hk
theorem VM_load {i:Nat} {dst:Option Nat} {x:Operand} {tl:TypeId} {ty:TypeId} {pos:String} {af:Array Edge} (hi:ops[i]?=some ⟨dst,.load tl x,ty,pos,af,none⟩) {ad:Addr} {v:Value} (h:ev g x=some (.pointer (some ad))) (hB:∀ p,ev ((d,p)::g) x=some (.pointer (some ad)))
  (hr:Loads P w0 L tl ad v) (hij:(i==j)=false) (heff:eff.contains i=false) (hd:dst.all (·<n)=true) (hdd:dst.all (· != d)=true)
  (hk:HoldVM P n w0 ops eff j d t ((i,tl,ad,v)::W) (listed.setIfInBounds i true) s Q (putE g dst v) L):HoldVM P n w0 ops eff j d t W listed (i::s) Q g L :=
 VM_take (fun w=>(loadVar tl ad).run P w=.ok v w) ((i,tl,ad,v)::W) hij hi heff hd hdd (fun p hp=>.inl hp) (fun w hst=>hr w hst)
  (fun L' hL' hW p hp=>by
   rcases List.mem_cons.1 hp with rfl|hp
   ·exact fun w hw=>hr w (hL' w hw)
   ·exact hW p hp)
  (fun a ha=>.inl ⟨wanted_of (o:=⟨dst,.load tl x,ty,pos,af,none⟩) (g:=g) ha M,fun w hS=>by rw [yE h ⟨dst,.load tl x,ty,pos,af,none⟩ a n M ha]; simp only [Sem.run_bind,hS,Result.andThen_ok,Sem.run_pure]⟩)
  (fun b a ha=>.inl ⟨wanted_of (o:=⟨dst,.load tl x,ty,pos,af,none⟩) (g:=(d,.map (some b))::g) ha M,fun w hS=>by rw [yE (hB _) ⟨dst,.load tl x,ty,pos,af,none⟩ a n M ha]; simp only [Sem.run_bind,hS,Result.andThen_ok,Sem.run_pure]⟩) hk
theorem VM_now {ty:TypeId} {pos:String} {af:Array Edge} (hj:ops[j]?=some ⟨some d,.makeMap t none,ty,pos,af,none⟩) (heff:eff.contains j=true) (hd:decide (d<n)=true)
  (hk:∀ b,HoldW P n w0 ops eff W (listed.setIfInBounds j true) s Q ((d,.map (some b))::g) (pt b (.map #[] 0)+L)):HoldVM P n w0 ops eff j d t W listed (j::s) Q g L:=by
 have her:(j::s).erase j=s:=by simp
 constructor
 ·intro hok hokB hc hq hsel hW a w ha hst
  simp only [okV,beq_self_eq_true,if_true,Bool.and_eq_true,beq_iff_eq] at hok
  obtain ⟨h1,h3⟩:=hok
  have hH:HoldW P n w0 ops eff W listed (j::s) Q g L:=by
   refine W_eff hj heff M (by simpa using hd) (ev_mapNew (t:=t)) (Kept.all _) ?_
   rintro _ _ ⟨b,rfl,rfl⟩
   exact ⟨AllLoads.extra (by
    clear hk
    induction W with
    | nil=>trivial
    | cons p W ih=>exact ⟨hW p (by simp),ih (fun q hq=>hW q (by simp [hq]))⟩),hk b⟩
  exact hH (by simp only [okOrder,heff,if_true,Bool.and_eq_true,beq_iff_eq]; exact ⟨h1,h3⟩) hc hq hsel hW a w ha hst
 ·intro b
  rw [her]
  exact hk b
theorem VM_call {i:Nat} {dst:Option Nat} {op:Op} {ty tyj:TypeId} {pos posj:String} {af afj:Array Edge} (hj:ops[j]?=some ⟨some d,.makeMap t none,tyj,posj,afj,none⟩) (heffj:eff.contains j=true) (hdj:decide (d<n)=true)
  (hi:ops[i]?=some ⟨dst,op,ty,pos,af,none⟩) {k:FuncId} {args:List Value} (h:CV P g op k args) (hB:∀ p,CV P ((d,p)::g) op k args) {pre R:Hp} {post:Value→Hp→Prop} (hs:Spec P w0 k args pre post) [hL:yJ pre L R] {W':Watched} (hW':Kept ops i W W')
  (hij:(i==j)=false) (heff:eff.contains i=true) (hd:dst.all (·<n)=true) (hdd:dst.all (· != d)=true)
  (hk:∀ v h,post v h→AllLoads P w0 (h+R) W'∧HoldVM P n w0 ops eff j d t W' (listed.setIfInBounds i true) s Q (putE g dst v) (h+R)):HoldVM P n w0 ops eff j d t W listed (i::s) Q g L:=by
 have hne:i≠j:=by simpa using hij
 have her:(i::s).erase j=i::s.erase j:=by rw [List.erase_cons_tail]; simpa using hij
 have B:∀ b,HoldW P n w0 ops eff W (listed.setIfInBounds j true) ((i::s).erase j) Q ((d,.map (some b))::g) (pt b (.map #[] 0)+L):=by
  intro b
  rw [her]
  haveI:yJ pre (pt b (.map #[] 0)+L) (pt b (.map #[] 0)+R):=⟨by rw [hL.out]; ac_rfl⟩
  refine W_call hi heff M hd (hB _) hs hW' fun v h2 hp=>?_
  obtain ⟨k1,k2⟩:=hk v h2 hp
  have e:h2+(pt b (.map #[] 0)+R)=pt b (.map #[] 0)+(h2+R):=by ac_rfl
  rw [e]
  refine ⟨k1.extra,?_⟩
  have:=k2.2 b
  rw [setIf_comm hne] at this
  exact holdW_env (sub_putE hdd) this
 refine ⟨?_,B⟩
 intro hok hokB hc hq hsel hW a w ha hst
 simp only [okV,hij,heff,Bool.and_eq_true,if_true,Bool.false_eq_true,if_false] at hok
 obtain ⟨⟨h1,h2⟩,h3⟩:=hok
 refine ⟨fun e=>(by rw [e] at h2; simp at h2),fun q hq'=>?_⟩
 have hqq:=List.all_eq_true.1 h1 q hq'
 simp only [Bool.or_eq_true,beq_iff_eq] at hqq
 rcases hqq with hqq|hqq
 ·subst hqq
  unfold wpOp
  simp only [hi,wanted_of (o:=⟨dst,op,ty,pos,af,none⟩) (g:=g) ha M,if_true]
  left
  unfold Oper.wp
  rw [h ⟨dst,op,ty,pos,af,none⟩ a w n M ha]
  have hst2:=hst
  rw [hL.out] at hst2
  refine Calls.mono (hs w R hst2) ?_
  rintro e w' ⟨v,h',rfl,hp,hst'⟩
  obtain ⟨k1,k2⟩:=hk v h' hp
  have hh:=watch_holds k1.all hst'
  rw [her] at hokB
  simp only [okOrder,heff,if_true,Bool.and_eq_true] at hokB
  have hB2:=hokB.2
  rw [setIf_comm hne.symm] at hB2
  exact ⟨fun p hp=>(hW'.at p hp).elim (hh p) (fun h=>h w'),WG_sub _ _ _ _ _ _ hW'.at (k2.1 h3 hB2 (hc.set hq') hq hsel k1.all _ w' (ha.put hd v) hst')⟩
 ·subst hqq
  unfold wpOp
  simp only [hj,wanted_of (o:=⟨some d,.makeMap t none,tyj,posj,afj,none⟩) (g:=g) ha M,if_true]
  left
  unfold Oper.wp
  obtain ⟨v,w',L',hrun,⟨b,rfl,rfl⟩,hst'⟩:=ev_mapNew (P:=P) (w0:=w0) (L:=L) (g:=g) (t:=t) ⟨some d,.makeMap t none,tyj,posj,afj,none⟩ a w n rfl ha hst
  have hWx:∀ p∈W,Loads P w0 (pt b (.map #[] 0)+L) p.2.1 p.2.2.1 p.2.2.2:=fun p hp=>(hW p hp).extra
  have hB:=B b hokB (hc.set hq') hq hsel hWx (a.put (some d) (.map (some b))) w' (ha.put (by simpa using hdj) _) hst'
  have hlen:((i::s).erase q).length=s.length:=by
   rw [List.length_erase_of_mem (List.mem_cons_of_mem _ (okV_mem h3))]; simp
  rw [hlen] at hB
  have hsub:∀ p∈(W.at P).past ops q,p∈W.at P∨∀ w,p.2 w:=fun p hp=>.inl (List.mem_filter.1 hp).1
  have hh:=watch_holds hWx hst'
  rcases hrun with hrun|⟨hrun,hu⟩
  ·rw [hrun]
   exact ⟨fun p hp=>hh p (List.mem_filter.1 hp).1,WG_sub _ _ _ _ _ _ hsub hB⟩
  ·cases hu
theorem hold_drawVM {id:Nat} [hq:NP Q] (eff:List Nat) (s:List Nat) (j d:Nat) (t:TypeId) (hm:P.follows .mixedOrders=true) (hl:s.length=ops.size) (hs:Region.noSelect ops=true)
  (hok:okV ops eff j (Array.replicate ops.size false) s=true) (hokB:okOrder ops eff ((Array.replicate ops.size false).setIfInBounds j true) (s.erase j)=true) (h:HoldVM P n w0 ops eff j d t [] (Array.replicate ops.size false) s Q g L):Hold P n w0 (.region id ops true) Q g L:=by
 intro a w ha hst
 refine wp_region_any hm (WG_any _ [] _ _ _ ?_)
 rw [← hl]
 have:=h.1 hok hokB (Closed.start ops _) hq hs (by simp) a { w with drawn:=w.drawn+1 } ha hst.drew
 rw [← hl] at this
 exact this
end
set_option maxHeartbeats 16000000
set_option maxRecDepth 4000
set_option synthInstance.maxHeartbeats 400000
set_option synthInstance.maxSize 100000
attribute [local irreducible] Hold HoldL HoldW
def txn0 :Txn:=⟨0,0,[],[],[],[],0,0⟩
abbrev newCl (k:Cfg) (id:Int) (gs:List Int):Cl :=
 { nodes:=k.nodes,accs:=k.accs,clis:=k.clis,nmem:=k.mem.length,sets:=k.sets,id:=id,addr:=100+id,clock:=0,seq:=0,txns:=0,m:=firstM k,stale:=false,guess:=gs,ended:=[],doubts:=[],round:=0,reqs:=[],cur:=txn0,opn:=false,own:=false,busy:=false,kind:=0,since:=0,waits:=none,coord:=none,about:=0,started:=0,out:=[],ans:=ans0,answered:=false }
theorem new_rest {k:Cfg} {id:Int} {gs:List Int} (hr:RightP k id) (hg:gs.length=5):AtRest (newCl k id gs):=by
 refine ⟨rfl,⟨hg,by simp,checkR_grp hr.map,by simp [txn0],by simp [txn0],by simp,by simp,⟨hr.mem.2.1,Int.le_refl _⟩⟩,?_,.inr ⟨rfl,⟨rfl,rfl⟩,⟨rfl,rfl,rfl,rfl⟩⟩⟩
 intro i hi
 have:=firstF_lt hi
 simp at this
theorem new_sz {k:Cfg} {id:Int} {gs:List Int} (hr:RightP k id) (hg:∀ g∈gs,0≤g∧g≤1000) (hs:SetSz k.sets):Sz 100 (newCl k id gs):=by
 have h1:=hr.id
 have h2:=hr.nodes
 refine ⟨⟨by simp,by simp,by simp,by simp,by simp,⟨h1.1,h1.2,rfl⟩⟩,by simp,by simp,checkR_sz hr.map,⟨⟨i64_0,i64_0,i64_0,i64_0⟩,by simp [txn0],by simp [txn0],⟨by simp [txn0],by simp [txn0]⟩,⟨by simp [txn0],by simp [txn0],List.Pairwise.nil⟩⟩,⟨by simp,by simp⟩,?_,trivial,⟨by simp,by simp,by simp,by simp,h2,hg⟩,hs⟩
 intro k hk; cases hk
def guess0 (k:Cfg):List Int:=(List.range 5).map fun g=>match k.mem[g]? with
 | some l=>l.getD 0 0
 | none=>1
theorem guess0_length (k:Cfg):(guess0 k).length=5:=by simp [guess0]
theorem guess_set {G:List Int} {i:Nat} (hi:i<G.length):(G.take i++List.replicate (G.length - i) 0).set i G[i]=G.take (i+1)++List.replicate (G.length - (i+1)) 0:=by
 have h1:(G.take i).length=i:=by rw [List.length_take]; omega
 obtain ⟨n,hn⟩:∃ n,G.length - i=n+1:=⟨G.length - i - 1,by omega⟩
 rw [List.set_append_right _ _ (by omega),h1,Nat.sub_self,hn,List.replicate_succ,List.set_cons_zero,List.take_succ_eq_append_getElem hi,List.append_assoc,show G.length - (i+1)=n by omega]; rfl
theorem new_spec (w0:World) (X:Hp) (k:Cfg) (am ar asx:Option Addr) (cm cr cs:Nat) (id:Int) (h1:RdL w0 X (.slice am k.mem.length cm) k.mem) (h2:RdL w0 X (.slice ar k.rngs.length cr) k.rngs) (h3:RdL w0 X (.slice asx k.sets.length cs) k.sets)
  (hl:k.mem.length≤1000000∧k.rngs.length≤1000000∧k.sets.length≤1000000) (hlm:∀ l∈k.mem,l.length≤1000000) (hep:∀ r∈k.rngs,I64 r.epoch) :
  Spec Tryz.prog w0 9 [.agg (cellsC k (.slice am k.mem.length cm) (.slice ar k.rngs.length cr) (.slice asx k.sets.length cs)).toArray,.int .i64 id] X
   (fun r h'=>(r=.tuple #[.pointer none,.int .i64 3]∧¬ RightQ k id∧X=h')∨∃ b gs E S,r=.tuple #[pB b,.int .i64 0]∧RightP k id∧gs=guess0 k∧gs.length=5∧(∀ g∈gs,0≤g∧g≤7)∧CliT w0 (X+E) b 0 (newCl k id gs) S∧X+E+S=h'):=by
 refine zN Tryz.func9 M Tryz.ntmps9 Tryz.results9 M fun fr=>?_
 repeat (first|refine zF ?_|refine zB ?_|refine zE ?_|refine zK M M M ?_|refine L_ldA M (vs:=[_,_,_,_,_,_]) M M M M M ?_|refine L_box M (c:=[_,_,_,_,_,_]) M M M (fun _=>?_))
 rename_i b1
 refine zX M M (zQ M M M) (right_spec w0 X k am ar asx cm cr cs id h1 h2 h3 hl hlm hep) ?_
 rintro _ _ ⟨q,rfl,hq,hnq,rfl⟩
 cases q
 ·refine zaB ?_
  exact ⟨[_,_],X,_,⟨rfl,rfl,trivial⟩,.inl ⟨rfl,(fun h=>by cases hnq h),rfl⟩,yJ.out⟩
 replace hq:=hq M
 have hid:=hq.id
 repeat (first|refine zF ?_|refine zE ?_|refine zK M M M ?_|refine zP ?_|refine zI M ?_)
 refine hold_drawVM [4,6,8] [0,1,2,3,5,6,4,7,8,9] 4 16 84 (by kernel_rfl) M (by kernel_rfl) (by kernel_rfl) (by kernel_rfl) ?_
 repeat (first|refine VM_of M M (fun _=>rfl) M M M M ?_|refine VM_load M M (fun _=>rfl) (zL (vs:=[_,_,_,_,_,_]) M M M) M M M M ?_)
 refine VM_pure M (pv_add M M (by omega) (by omega)) (fun _=>pv_add M M (by omega) (by omega)) M M M M ?_
 repeat (refine VM_load M M (fun _=>rfl) (zL (vs:=[_,_,_,_,_,_]) M M M) M M M M ?_)
 refine VM_call M M M M (zQ M M M) (fun _=>zQ M M M) (firstMap_spec w0 X k (.slice am k.mem.length cm) (.slice asx k.sets.length cs) ar cr M M h2 hl.2.1) (Kept.all _) M M M M ?_
 rintro _ _ ⟨a3,c3,G,rfl,hG,rfl⟩
 refine ⟨zka,?_⟩
 refine VM_now M M M (fun b4=>?_)
 repeat (refine yD M M M M (pv_build (vs:=[_,_,_,_,_]) (cells:=(_::_::_::_::_::_::_::_::_::_::_::_::_::_::_::_::_::_::_::_::_::_::_::_::_::_::_::_::_::_::_::_::_::_::_::_::_::_::[])) M M) ?_)
 refine W_eff M M M M (ev_box M) (Kept.all _) ?_
 rintro _ _ ⟨b5,rfl,rfl⟩
 refine ⟨zka,?_⟩
 refine zaD ?_
 refine zcG ?_
 refine zX M M (zQ M M M) (cloneSpns_spec w0 X _ k.sets h3 (by omega)) ?_
 rintro vs _ ⟨hc,hcl,rfl⟩
 obtain ⟨as2,cs2,rfl⟩:=hcl.shape
 refine zbU ?_
 refine L_eff M M (ev_makeSlice (n:=5) M M M (by decide) (by decide)) ?_
 rintro _ _ ⟨bG,rfl,rfl⟩
 refine zdT ?_
 have hG0:(List.replicate 5 (Value.int .i64 0).cells.toList).flatten.toArray=(([0,0,0,0,0]:List Int).map (Value.int .i64)++([]:List Value)).toArray:=rfl
 rw [hG0]
 clear hG0
 refine hold_count 5 (fun i g L=>∃ (gs:List Int) (R:Hp),g=[(2,pB b1),(6,pB b5),(36,.int .i64 ((5:Nat):Int)),(37,.int .i64 (i:Int))]∧gs.length=5∧(∀ g∈gs,0≤g∧g≤7)∧gs=(guess0 k).take i++List.replicate ((guess0 k).length - i) 0 ∧
  L=cliC b5 (.int .i64 k.nodes::.int .i64 k.accs::.int .i64 k.clis::.slice am k.mem.length cm::.slice ar k.rngs.length cr::.slice as2 k.sets.length cs2::.int .i64 id::.int .i64 (100+id)::.int .i64 0::.int .i64 0::.int .i64 0::.slice a3 k.rngs.length c3::.int .i64 (firstM k).epoch::.int .i64 0::.int .i64 0::.int .i64 0::.int .i64 0::.int .i64 0::.bool false::.slice (some ⟨bG,0,none⟩) 5 5::.map (some b4)::.slice none 0 0::.int .i64 0::.slice none 0 0::.pointer none::.bool false::.int .i64 0::.int .i64 0::.pointer none::.nilFunc::.pointer none::.int .i64 0::.int .i64 0::.slice none 0 0::.int .i64 0::.int .i64 0::.slice none 0 0::.bool false::[]) +
   (pt bG (.cells (gs.map (Value.int .i64)++([]:List Value)).toArray 3 (0,0))+(X+hc+(pt b4 (.map #[] 0)+(G+(pt b1 (.cells (cellsC k (.slice am k.mem.length cm) (.slice ar k.rngs.length cr) (.slice asx k.sets.length cs)).toArray 32 (0,0))+fr)))))+R) _
  ⟨[0,0,0,0,0],0,rfl,rfl,by simp,by rw [guess0_length]; rfl,by rw [yA]⟩ zsb ?_
 rintro i g L hi ⟨gs,R,rfl,hgl,hgs,hge,rfl⟩
 have hG5:=guess0_length k
 refine zaH ?_
 refine yF M M (pv_lss M M) (fun n1=>?_) (fun n1=>?_)
 ·have hi5:i<5:=by omega
  have hig:i<gs.length:=by omega
  have hi6:i<(guess0 k).length:=by omega
  have hgi:(guess0 k)[i]=(match k.mem[i]? with|some l=>l.getD 0 0|none=>1):=by simp only [guess0,List.getElem_map,List.getElem_range]
  have hset:∀ v:Int,v=(guess0 k)[i]→gs.set i v=(guess0 k).take (i+1)++List.replicate ((guess0 k).length - (i+1)) 0:=by
   intro v hv
   rw [hge,hv]; exact guess_set hi6
  repeat (first|refine zF ?_|refine zR ?_|refine zB ?_|refine zE ?_|refine zK M M M ?_|refine zY M M M M M ?_|refine L_ld M M M M M ?_|refine zP ?_|refine zJ M ?_|refine L_idx M M (by omega) M M ?_)
  refine L_eff M M (ev_store (c:=gs.map (Value.int .i64)++[]) M M M M (cells_getI gs [] hig) (cells_setI gs [] hig 1)) ?_
  rintro _ _ rfl
  repeat (first|refine zF ?_|refine zB ?_|refine zE ?_|refine zK M M M ?_|refine zY M M M M M ?_|refine L_ld M M M M M ?_|refine L_len M M M ?_)
  have hg1:∀ g∈gs.set i 1,0≤g∧g≤7:=by
   intro g hg
   rcases List.mem_or_eq_of_mem_set hg with hg|rfl
   ·exact hgs g hg
   ·omega
  refine yF M M (pv_lss M M) (fun n2=>?_) (fun n2=>?_)
  ·have hx:i<k.mem.length:=by omega
   obtain ⟨bq,oq,rfl,e,he,hat⟩:=h1.at hx
   obtain ⟨al,cl,rfl,hrd⟩:=_root_.id he
   have hbad:=hq.mem.2.2 _ (List.getElem_mem hx)
   rw [List.getElem?_eq_getElem hx] at hgi
   generalize k.mem[i]=l at *
   have hbad:=of_decide_eq_false hbad
   have h0:0<l.length:=List.length_pos_iff.2 (fun e=>hbad (.inl e))
   have hv:1≤l[0]∧l[0]≤k.nodes:=by
    have:=List.getElem_mem h0
    by_cases h:l[0]<1∨k.nodes<l[0]
    ·exact absurd (.inr ⟨_,this,h⟩) hbad
    ·omega
   have hn:=hq.nodes
   obtain ⟨bl,ol,rfl,e1,rfl,hat1⟩:=hrd.at h0
   have hig2:i<(gs.set i 1).length:=by rw [List.length_set]; exact hig
   repeat (first|refine zE ?_|refine zJ M ?_)
   refine yB [13] [0,1,2,3,4,5,6,7,8,9,10,11,12,13] (by kernel_rfl) M (by kernel_rfl) (by kernel_rfl) ?_
   repeat (first|refine yH M M M M M ?_|refine yD M M M M (zZ M M M) ?_|refine W_load M M M M (yE M) (zG M (zS M)) ?_|refine W_idx M M M (by omega) M M M ?_|refine W_atf M M (by assumption) M M M M M ?_|refine W_at M M (by assumption) M M M M M ?_)
   refine W_eff M M M M (ev_store (c:=(gs.set i 1).map (Value.int .i64)++[]) M M M M (cells_getI (gs.set i 1) [] hig2) (cells_setI (gs.set i 1) [] hig2 l[0])) (Kept.all _) ?_
   rintro _ _ rfl
   refine ⟨zka,?_⟩
   repeat (refine yI ?_)
   refine zaI ?_
   refine ⟨hi5,_,zsb,(gs.set i 1).set i l[0],_,rfl,by rw [List.length_set,List.length_set]; exact hgl,?_,?_,yJ.out⟩
   ·intro g hg
    rcases List.mem_or_eq_of_mem_set hg with hg|rfl
    ·exact hg1 g hg
    ·omega
   ·rw [List.set_set]
    refine hset _ ?_
    rw [hgi]
    show l[0]=l.getD 0 0
    rw [List.getD_eq_getElem?_getD,List.getElem?_eq_getElem h0]; rfl
  ·refine zaJ ?_
   exact ⟨hi5,_,zsb,gs.set i 1,_,rfl,by rw [List.length_set]; exact hgl,hg1,hset _ (by rw [hgi,List.getElem?_eq_none (by omega)]),yJ.out⟩
 ·refine zaK ?_
  have hgO:OwL w0 0 gs (.slice (some ⟨bG,0,none⟩) gs.length 5) (pt bG (.cells (gs.map (Value.int .i64)++([]:List Value)).toArray 3 (0,0))):=by
   refine owL_ints.2 ?_
   have:=isRow_block (E:=3) (b:=bG) (cap:=5) (spare:=[]) (size:=1) (enc1_len1 gs) (by rw [enc1_length]; omega) (by unfold maxLen; omega) (by rw [enc1_length,hgl]; rfl)
   rw [flat1,enc1_length] at this
   exact this
  rw [hgl] at hgO
  have hcl0:OwL w0 0 k.sets (.slice as2 k.sets.length cs2) hc:=by
   obtain ⟨es,q1,q2⟩:=hcl
   exact ⟨es,q1,All2.mono (S:=Rep.rd w0 0) (fun x e he=>he) q2⟩
  have HP:Parts w0 (X+(hc+G)) b5 (newCl k id gs) ⟨.slice am k.mem.length cm,.slice ar k.rngs.length cr,.slice as2 k.sets.length cs2,.slice a3 k.rngs.length c3,.slice (some ⟨bG,0,none⟩) 5 5,.map (some b4),.slice none 0 0,.slice none 0 0,.pointer none,.pointer none,.nilFunc,.pointer none,.slice none 0 0,.slice none 0 0⟩ 0 [] (pt bG (.cells (gs.map (Value.int .i64)++([]:List Value)).toArray 3 (0,0))) (pt b4 (.map #[] 0)) 0 0 0 0 0 :=
   { mem:=⟨_,_,rfl⟩,rngs0:=rfl,sets:=⟨_,_,rfl,hcl0.rdh.mono (R:=X+G) (by ac_rfl)⟩,mr:=⟨_,_,rfl,hG.mono (R:=X+hc) (by ac_rfl)⟩,guess:=hgO,ended:=⟨b4,rfl,MapAt.empty b4⟩,dbts:=OwL.nil _ none,reqs:=⟨0,0,OwL.nil _ none,rfl,(yA 0).symm⟩,opn:=rfl,own:=rfl,txn:=.inr ⟨rfl,rfl,rfl⟩,waits:=rfl,coord:=⟨rfl,rfl⟩,out:=OwL.nil _ none,ansd:=⟨_,_,rfl,RdL.nil _ _ _⟩ }
  have hgf:gs=guess0 k:=by rw [hge,show (guess0 k).length - i=0 by omega,List.take_of_length_le (by omega)]; simp
  exact ret_cli [_,_] ⟨rfl,rfl,trivial⟩ HP M (.inr ⟨b5,gs,hc+G,_,rfl,hq,hgf,hgl,hgs,⟨_,_,_,_,_,_,_,_,_,HP,rfl⟩,rfl⟩)
def cfg1 :Cfg:=⟨3,1,1,[[1,2,3],[1,2,3]],[⟨0,64,1,1⟩],[⟨0,4⟩]⟩
abbrev cal1 (k b:Int):Cal:=⟨k,b,0,0,0,0,0,0,0,0,0,0⟩
abbrev m5 :Msg:=⟨11,1,101,0,0,0,0,0,0,1048577,1,0,1,0,true,[],[]⟩
theorem right1 :RightQ cfg1 1:=⟨by decide,by decide +kernel,by decide +kernel,by decide +kernel,by decide +kernel⟩
theorem good5 :GoodP m5∧(bodyF m5).length≤65536:=by
 refine ⟨⟨by decide +kernel,?_,by decide +kernel,rfl,⟨rfl,by decide,by decide,?_⟩⟩,by decide +kernel⟩
 ·have:∀ k:_root_.Fin 11,(numsF m5).getD k.val 0≠0→(k.val:Int)∈hasF m5.kind:=by decide +kernel
  exact fun k hk=>this ⟨k,hk⟩
 ·have:∀ k:_root_.Fin 11,(k.val:Int)∈hasF m5.kind→rngF k.val ((numsF m5).getD k.val 0)=true:=by decide +kernel
  exact fun k hk=>this ⟨k,hk⟩
theorem works_facts :∃ p1 p2 p3 p4 p5:Cl × Rsp,p1=callF (newCl cfg1 1 (guess0 cfg1)) (cal1 1 0) []∧p2=callF p1.1 (cal1 3 4) [1,2,3,4]∧p3=callF p2.1 (cal1 2 4) []∧p4=callF p3.1 (cal1 4 0) []∧p5=takeF p4.1 1 101 (headF (bodyF m5)++bodyF m5) ∧
  p1.2.ans.txn=1048577∧p2.2.ans.code=0∧p3.2.ans.data=[1,2,3,4]∧(∃ q,p4.2.out=[q]∧q.dst=1)∧p4.2.answered=false∧p5.2.answered=true∧p5.2.ans.code=0∧p5.2.out.length=1∧p5.1.opn=false:=by
 refine ⟨_,_,_,_,_,rfl,rfl,rfl,rfl,rfl,by decide +kernel,by decide +kernel,by decide +kernel,?_,by decide +kernel,by decide +kernel,by decide +kernel,by decide +kernel,by decide +kernel⟩
 have h:((callF (callF (callF (callF (newCl cfg1 1 (guess0 cfg1)) (cal1 1 0) []).1 (cal1 3 4) [1,2,3,4]).1 (cal1 2 4) []).1 (cal1 4 0) []).2.out.map (·.dst))=[1]:=by decide +kernel
 exact List.map_eq_singleton_iff.1 h
theorem rd_left {α:Type} [ρ:Rep α] {w0:World} {A h5 h7:Hp} {v:Value} {xs:List α} (H:OwL w0 0 xs v h5):RdL w0 (A+(h5+h7)) v xs:=H.rdh.mono (R:=A+h7) (by ac_rfl)
theorem rd_right {α:Type} [ρ:Rep α] {w0:World} {A h5 h7:Hp} {v:Value} {xs:List α} (H:OwL w0 0 xs v h7):RdL w0 (A+(h5+h7)) v xs:=H.rdh.mono (R:=A+h5) (by ac_rfl)
theorem one28_spec (w0:World):Spec Tryz.prog w0 10 [] 0 (fun r h'=>∃ am ar ax cm cr cx,r=.agg (cellsC cfg1 (.slice am cfg1.mem.length cm) (.slice ar cfg1.rngs.length cr) (.slice ax cfg1.sets.length cx)).toArray ∧
  RdL w0 h' (.slice am cfg1.mem.length cm) cfg1.mem∧RdL w0 h' (.slice ar cfg1.rngs.length cr) cfg1.rngs∧RdL w0 h' (.slice ax cfg1.sets.length cx) cfg1.sets):=by
 refine zN Tryz.func10 M Tryz.ntmps10 Tryz.results10 M fun fr=>?_
 repeat (first|refine zF ?_|refine zB ?_|refine zE ?_|refine zM ?_|refine L_build (vs:=[_,_]) (cells:=[_,_]) M M M M ?_|refine L_build (vs:=[_,_,_,_]) (cells:=[_,_,_,_]) M M M M ?_|refine L_build (vs:=[_,_,_,_,_,_]) (cells:=[_,_,_,_,_,_]) M M M M ?_|refine L_stA M (vs:=[_,_,_,_,_,_]) M M M M (c':=[_,_,_,_,_,_]) M M ?_|refine L_alloc (c:=[_,_,_,_,_,_]) M M M (fun _=>?_)|refine L_bs (vs:=[_]) (cells:=[_,_]) M M M M M M (fun _=>?_)|refine L_bs (vs:=[_]) (cells:=[_,_,_,_]) M M M M M M (fun _=>?_)|refine L_bs (vs:=[_,_]) (cells:=[_,_]) M M M M M M (fun _=>?_)|refine L_bs (vs:=[_,_,_]) (cells:=[_,_,_]) M M M M M M (fun _=>?_))
 rename_i b0 b1 b2 b3 b5 b7
 have o1:=own_lit (b:=b1) (w0:=w0) [1,2,3] 3 rfl (by decide)
 have o2:=own_lit (b:=b2) (w0:=w0) [1,2,3] 3 rfl (by decide)
 simp only [List.map_cons,List.map_nil] at o1 o2
 have o3:OwL w0 (pt b1 (.cells [.int .i64 1,.int .i64 2,.int .i64 3].toArray 3 (0,0))+pt b2 (.cells [.int .i64 1,.int .i64 2,.int .i64 3].toArray 3 (0,0))) cfg1.mem (.slice (some ⟨b3,0,none⟩) 2 2) (pt b3 (.cells [.slice (some ⟨b1,0,none⟩) 3 3,.slice (some ⟨b2,0,none⟩) 3 3].toArray 61 (0,0))) :=
  ⟨[[.slice (some ⟨b1,0,none⟩) 3 3],[.slice (some ⟨b2,0,none⟩) 3 3]],isRow_block (spare:=[]) (by simp; rfl) (Nat.le_refl 2) (by unfold maxLen; omega) M,⟨_,_,rfl,o1.rdh.mono M⟩,⟨_,_,rfl,o2.rdh.mono (hadd_comm _ _)⟩,trivial⟩
 have o5:OwL w0 0 cfg1.rngs (.slice (some ⟨b5,0,none⟩) 1 1) (pt b5 (.cells [.int .i64 0,.int .i64 64,.int .i64 1,.int .i64 1].toArray 80 (0,0))) :=
  ⟨[[.int .i64 0,.int .i64 64,.int .i64 1,.int .i64 1]],isRow_block (spare:=[]) (by simp; rfl) (Nat.le_refl 1) (by unfold maxLen; omega) M,rfl,trivial⟩
 have o7:OwL w0 0 cfg1.sets (.slice (some ⟨b7,0,none⟩) 1 1) (pt b7 (.cells [.int .i64 0,.int .i64 4].toArray 78 (0,0))) :=
  ⟨[[.int .i64 0,.int .i64 4]],isRow_block (spare:=[]) (by simp; rfl) (Nat.le_refl 1) (by unfold maxLen; omega) M,rfl,trivial⟩
 exact ⟨[_],pt b1 (.cells [.int .i64 1,.int .i64 2,.int .i64 3].toArray 3 (0,0))+pt b2 (.cells [.int .i64 1,.int .i64 2,.int .i64 3].toArray 3 (0,0))+pt b3 (.cells [.slice (some ⟨b1,0,none⟩) 3 3,.slice (some ⟨b2,0,none⟩) 3 3].toArray 61 (0,0))+(pt b5 (.cells [.int .i64 0,.int .i64 64,.int .i64 1,.int .i64 1].toArray 80 (0,0))+pt b7 (.cells [.int .i64 0,.int .i64 4].toArray 78 (0,0))),_,
  ⟨⟨_,rfl,zL (vs:=[_,_,_,_,_,_]) M M M⟩,trivial⟩,⟨_,_,_,_,_,_,rfl,o3.rd (R:=_) (hf:=⟨rfl⟩),rd_left o5,rd_right o7⟩,yJ.out⟩
section
variable (w0:World) (X:Hp) (b tb:Nat) (c:Cl) (S:Hp) (n:Nat)
theorem txnNo_spec (hS:CliT w0 X b tb c S) (h:c.opn=false):Spec Tryz.prog w0 22 [pB b] (X+S) (fun r h'=>r=.int .i64 0∧X+S=h'):=by
 obtain ⟨⟨vmem,vr0,vsets,vmr,vg,ve,vd,vrq,vop,vow,vw,vco,vou,van⟩,ps,hG,hE,hD,hR,hT,hK,hO,P,rfl⟩:=hS
 have e:=P.opn
 rw [h] at e
 simp only at e
 obtain rfl:vop=.pointer none:=e
 refine zN Tryz.func22 M Tryz.ntmps22 Tryz.results22 M fun fr=>?_
 refine zbF ?_
 refine yG M M (pv_eql_nilp M M) ?_
 refine zaB ?_
 exact ⟨[_],X+_,_,⟨rfl,trivial⟩,⟨rfl,rfl⟩,yJ.out⟩
theorem calling0_spec (x:Cal) (hS:CliT w0 X b tb c S) (hZ:Sz n c) (hn:n+200≤100000000) (hA:AtRest c) (hx:CalSz x) :
  Spec Tryz.prog w0 11 [pB b,.agg (cellsX x (.slice none 0 0)).toArray] (X+S) (fun r h'=>∃ tb',Fin w0 X b tb' (callF c x []).1 (callF c x []).2 r h'):=by
 have h:=calling_spec w0 X b tb c S n x 0 [] none 0 (RdL.nil _ _ _) (by decide) hS hZ hn hA hx
 rw [yA] at h
 refine h.mono ?_
 rintro r _ ⟨tb',h1,hF,rfl⟩
 rw [yA]
 exact ⟨tb',hF⟩
end
theorem cal1_sz (k b:Int) (hb:I64 b):CalSz (cal1 k b):=⟨hb,i64_0,i64_0,i64_0,i64_0,i64_0,i64_0,i64_0⟩
theorem works_spec (w0:World):Spec Tryz.prog w0 8 [] 0 fun v _=>v=.bool true:=by
 obtain ⟨p1,p2,p3,p4,p5,e1,e2,e3,e4,e5,f1,f2,f3,f4,f5,f6,f7,f8,f9⟩:=works_facts
 refine zN Tryz.func8 M Tryz.ntmps8 Tryz.results8 M fun fr=>?_
 refine zaC ?_
 refine zX M M (zQ M M M) (one28_spec w0) ?_
 rintro _ H ⟨am,ar,ax,cm,cr,cx,rfl,q1,q2,q3⟩
 skip
 refine zX M M (zQ M M M) (new_spec w0 H cfg1 am ar ax cm cr cx 1 q1 q2 q3 (by decide) (by decide) (by decide)) ?_
 rintro _ _ (⟨rfl,hno,rfl⟩|⟨b,gs,E,S,rfl,hr,rfl,hgl,hgs,hS,rfl⟩)
 ·exact absurd right1 hno
 have A0:=new_rest hr hgl
 have Z0:=new_sz hr (fun g hg=>by have:=hgs g hg; omega) (show SetSz cfg1.sets from ⟨by decide,by decide⟩)
 refine zaC ?_
 refine L_no M M (pv_neq M M) (by decide) ?_
 repeat (refine zK M M M ?_)
 refine yG M M (pv_eql_nilp M M) ?_
 refine zaV ?_
 refine zX M M (zQ M M M) (callV_spec w0 1 0 none 0 0) ?_
 rintro _ _ ⟨rfl,rfl⟩
 skip
 refine zX M M (zQ M M M) (calling0_spec w0 (H+E) b 0 _ S 100 (cal1 1 0) hS Z0 (by omega) A0 (cal1_sz _ _ i64_0)) ?_
 have A1:=(call_ok A0 (cal1 1 0) []).1
 have Z1:=Z0.call (by omega) A0.2.1 (cal1_sz 1 0 i64_0) []
 rw [← e1] at A1 Z1 ⊢
 rintro _ _ ⟨t1,E1,S1,ho1,⟨vo1,ad1,cd1,rfl,hout1,hans1⟩,hS1,rfl⟩
 obtain ⟨ao1,co1,rfl⟩:=hout1.shape
 clear e1
 repeat (first|refine zF ?_|refine zB ?_|refine zE ?_|refine zK M M M ?_|refine L_stA M (vs:=[_,_,_]) M M M M (c':=[_,_,_]) M M ?_|refine L_alloc (c:=[_,_,_]) M M M (fun _=>?_)|refine L_bs (vs:=[_,_,_,_]) (cells:=[_,_,_,_]) M M M M M M (fun _=>?_))
 rename_i b4 bd
 have oD:OwL w0 0 ([1,2,3,4]:List Bt) (.slice (some ⟨bd,0,none⟩) 4 4) (pt bd (.cells [.int .u8 1,.int .u8 2,.int .u8 3,.int .u8 4].toArray 5 (0,0))) :=
  ⟨[[.int .u8 1],[.int .u8 2],[.int .u8 3],[.int .u8 4]],isRow_block (spare:=[]) (by simp; rfl) (Nat.le_refl 4) (by unfold maxLen; omega) M,rfl,rfl,rfl,rfl,trivial⟩
 refine zX M M (zQ M M M) (callV_spec w0 3 4 (some ⟨bd,0,none⟩) 4 4) ?_
 rintro _ _ ⟨rfl,rfl⟩
 skip
 refine zX M M (zQ M M M) (calling_spec w0 (H+E+E1) b t1 p1.1 S1 (100+100) (cal1 3 4) _ [1,2,3,4] _ 4 oD.rdh (by decide) hS1 Z1 (by omega) A1 (cal1_sz _ _ (by unfold I64; omega))) ?_
 have A2:=(call_ok A1 (cal1 3 4) [1,2,3,4]).1
 have Z2:=Z1.call (by omega) A1.2.1 (cal1_sz 3 4 (by unfold I64; omega)) [1,2,3,4]
 rw [← e2] at A2 Z2 ⊢
 rintro _ _ ⟨t2,_,⟨E2,S2,ho2,⟨vo2,ad2,cd2,rfl,hout2,hans2⟩,hS2,rfl⟩,rfl⟩
 obtain ⟨ao2,co2,rfl⟩:=hout2.shape
 clear e2 hS1
 repeat (first|refine zF ?_|refine zB ?_|refine zE ?_|refine zK M M M ?_|refine L_stA M (vs:=[_,_,_]) M M M M (c':=[_,_,_]) M M ?_|refine L_alloc (c:=[_,_,_]) M M M (fun _=>?_))
 rename_i b7
 refine zX M M (zQ M M M) (callV_spec w0 2 4 none 0 0) ?_
 rintro _ _ ⟨rfl,rfl⟩
 skip
 refine zX M M (zQ M M M) (calling0_spec w0 (H+E+E1+E2) b t2 p2.1 S2 (100+100+100) (cal1 2 4) hS2 Z2 (by omega) A2 (cal1_sz _ _ (by unfold I64; omega))) ?_
 have A3:=(call_ok A2 (cal1 2 4) []).1
 have Z3:=Z2.call (by omega) A2.2.1 (cal1_sz 2 4 (by unfold I64; omega)) []
 rw [← e3] at A3 Z3 ⊢
 rintro _ _ ⟨t3,E3,S3,ho3,⟨vo3,ad3,cd3,rfl,hout3,hans3⟩,hS3,rfl⟩
 obtain ⟨ao3,co3,rfl⟩:=hout3.shape
 clear e3 hS2
 repeat (first|refine zF ?_|refine zB ?_|refine zE ?_|refine zK M M M ?_|refine L_stA M (vs:=[_,_,_]) M M M M (c':=[_,_,_]) M M ?_|refine L_alloc (c:=[_,_,_]) M M M (fun _=>?_))
 rename_i b10
 refine zX M M (zQ M M M) (callV_spec w0 4 0 none 0 0) ?_
 rintro _ _ ⟨rfl,rfl⟩
 skip
 refine zX M M (zQ M M M) (calling0_spec w0 (H+E+E1+E2+E3) b t3 p3.1 S3 (100+100+100+100) (cal1 4 0) hS3 Z3 (by omega) A3 (cal1_sz _ _ i64_0)) ?_
 have A4:=(call_ok A3 (cal1 4 0) []).1
 have Z4:=Z3.call (by omega) A3.2.1 (cal1_sz 4 0 i64_0) []
 rw [← e4] at A4 Z4 ⊢
 rintro _ _ ⟨t4,E4,S4,ho4,⟨vo4,ad4,cd4,rfl,hout4,hans4⟩,hS4,rfl⟩
 obtain ⟨q,f4,hqd⟩:=f4
 have hl4:p4.2.out.length=1:=by rw [f4]; rfl
 have hq0:∀ (h:0<p4.2.out.length),p4.2.out[0].dst=1:=by rw [f4]; exact fun _=>hqd
 obtain ⟨ao4,co4,rfl⟩:=hout4.shape
 rw [f5]
 clear e4 hS3
 repeat (first|refine zF ?_|refine zB ?_|refine zE ?_|refine zK M M M ?_|refine L_build (vs:=[_,_,_,_,_,_,_]) (cells:=[_,_,_,_,_,_,_,_,_,_,_,_,_,_,_,_,_]) M M M M ?_|refine L_stA M (vs:=[_,_,_]) M M M M (c':=[_,_,_]) M M ?_|refine L_alloc (c:=[_,_,_]) M M M (fun _=>?_))
 rename_i b13
 refine zX M M (zQ M M M) (packet_spec w0 H m5 none none 0 0 (RdL.nil _ _ _) (RdL.nil _ _ _) (by decide) (by decide) (by decide)) ?_
 rintro _ _ ⟨bs,ab,cb,E5,rfl,hb,hbl,hbc,hbx,rfl⟩
 have hbs:=hbx good5
 rw [← hbs] at e5
 clear hbx hbs
 skip
 refine zX M M (zQ M M M) (taking_spec w0 (H+E+E1+E2+E3+E4+E5) b t4 p4.1 S4 (100+100+100+100+100) (hS4.mono M) Z4 (by omega) A4.2.1 A4.2.2.2 1 101 bs ab cb (hb.mono (R:=H+E+E1+E2+E3+E4) (by ac_rfl)) (by omega) hbc) ?_
 rw [← e5]
 rintro _ _ ⟨E6,S5,ho5,⟨vo5,ad5,cd5,rfl,hout5,hans5⟩,hS5,rfl⟩
 obtain ⟨ao5,co5,rfl⟩:=hout5.shape
 rw [f6]
 clear e5 hS4
 repeat (first|refine zF ?_|refine zB ?_|refine zE ?_|refine zK M M M ?_|refine zY M M M M M ?_|refine L_ld M M M M M ?_|refine L_stA M (vs:=[_,_,_]) M M M M (c':=[_,_,_]) M M ?_|refine L_alloc (c:=[_,_,_]) M M M (fun _=>?_))
 rename_i b16
 refine L_yes M M (pv_eql M M) f1 ?_
 refine zaO ?_
 refine L_yes M M (pv_eql M M) f2 ?_
 repeat (first|refine zK M M M ?_|refine zY M M M M M ?_|refine L_ld M M M M M ?_|refine L_bs (vs:=[_,_,_,_]) (cells:=[_,_,_,_]) M M M M M M (fun _=>?_))
 rename_i b77
 have oS:OwL w0 0 ([1,2,3,4]:List Bt) (.slice (some ⟨b77,0,none⟩) 4 4) (pt b77 (.cells [.int .u8 1,.int .u8 2,.int .u8 3,.int .u8 4].toArray 5 (0,0))) :=
  ⟨[[.int .u8 1],[.int .u8 2],[.int .u8 3],[.int .u8 4]],isRow_block (spare:=[]) (by simp; rfl) (Nat.le_refl 4) (by unfold maxLen; omega) M,rfl,rfl,rfl,rfl,trivial⟩
 refine zX M M (zQ M M M) (sameB_spec w0 (H+E+E1+E2+E3+pt b77 (.cells [.int .u8 1,.int .u8 2,.int .u8 3,.int .u8 4].toArray 5 (0,0))) (.slice ad3 p3.2.ans.data.length cd3) (.slice (some ⟨b77,0,none⟩) 4 4) p3.2.ans.data [1,2,3,4] (hans3.mono M) (oS.rdh.mono (R:=H+E+E1+E2+E3) (by ac_rfl)) (by rw [f3]; decide) (by decide)) ?_
 rintro _ _ ⟨rfl,rfl⟩
 rw [decide_eq_true f3]
 refine zcF ?_
 refine L_yes M M (pv_eql M M) (by omega) ?_
 have hr4:RdL w0 (H+E+E1+E2+E3+E4+ho4) (.slice ao4 p4.2.out.length co4) p4.2.out:=hout4.rd (hf:=⟨(yA _).symm⟩)
 obtain ⟨b8,o8,rfl,e8,he8,hat8⟩:=hr4.at (i:=0) (by omega)
 obtain ⟨a9,c9,rfl,hr9⟩:=id he8
 have hqd0:=hq0 (by omega)
 repeat (refine zK M M M ?_)
 refine yG M M (pv_indexAddr (i:=0) M M (by omega)) ?_
 repeat (first|refine zY M M M M M ?_|refine L_atf M (by assumption) M M M M ?_)
 refine L_yes M M (pv_eql M M) hqd0 ?_
 refine zaO ?_
 refine L_yes M M (pv_eql M M) f7 ?_
 refine zcF ?_
 refine L_yes M M (pv_eql M M) (by omega) ?_
 repeat (refine zK M M M ?_)
 refine zX M M (zQ M M M) (txnNo_spec w0 (H+E+E1+E2+E3+E4+E5+E6) b t4 p5.1 S5 hS5 f9) ?_
 rintro _ _ ⟨rfl,rfl⟩
 skip
 refine L_yes M M (pv_eql M M) M ?_
 refine zaE ?_
 exact ⟨[_],0,_,⟨rfl,trivial⟩,rfl,yJ.out⟩
structure LopIn (o:Lop):Prop where
 len:LenLop o
 x:CalSz o.x
end Sl
end Go.Proofs.YtfahijncpmlhjaaGreat
namespace Go.Proofs.YtfahijncpmlhjaaGreat.clIn
open Sl
open Go.ChangeShapes Go.WideShapes Go.ChangeAt Go.RowKit Go.Deep Go.Joins
set_option maxRecDepth 100000
set_option maxHeartbeats 4000000
section
variable {H:Type} {enc:TypeId × Value→H} {w0:World}
theorem open_cap {fuel:Nat} {ad:Option Addr} {n c:Nat} {t e:TypeId} {d:DataW H} {p:List MemPlace} (ht:Tryz.prog.underlying t=some (.slice e)) (h:DataW.trod enc Tryz.prog w0 0 (fun _=>true) true fuel t [.slice ad n c]=some (d,p)):n≤c:=by
 rcases open_slice ht h with ⟨hc,_⟩|⟨a,len,cap,m,n',D,Pl,hc,_,hl,_⟩
 ·simp only [List.cons.injEq,Value.slice.injEq,and_true] at hc
  omega
 ·simp only [List.cons.injEq,Value.slice.injEq,and_true] at hc
  omega
theorem open_ent {fuel:Nat} {x:List Value} {D:DataW H} {Pl:List MemPlace} (h:DataW.trod enc Tryz.prog w0 0 (fun _=>true) true fuel 203 x=some (D,Pl)) (hB:∀ m∈D.weights Tryz.prog 203,m≤reachBytes) :
  ∃ q:Ent,Rep.rd w0 0 q x:=by
 obtain ⟨xs,n,_,hd,hl,hlen,hf⟩:=DataW.trod_struct Tryz.underlying203 h
 have hlen':xs.length=3:=hlen
 clear hlen
 obtain ⟨y0,y1,y2,rfl⟩:∃ y0 y1 y2,xs=[y0,y1,y2]:=by
  match xs,hlen' with
  | [y0,y1,y2],_=>exact ⟨y0,y1,y2,rfl⟩
 simp only [Prod.mk.injEq,List.map_cons,List.map_nil] at hd
 obtain ⟨rfl,_⟩:=hd
 rw [show Tryz.prog.cellsOf 203=3 by kernel_rfl] at hl
 obtain ⟨c0,c1,c2,rfl⟩:∃ c0 c1 c2,x=[c0,c1,c2]:=by
  match x,hl with
  | [c0,c1,c2],_=>exact ⟨c0,c1,c2,rfl⟩
 have h0:DataW.trod enc Tryz.prog w0 0 (fun _=>true) true n 3 (([c0,c1,c2].drop 0).take (Tryz.prog.cellsOf 3))=some y0:=hf 0 _ rfl
 rw [show Tryz.prog.cellsOf 3=1 by kernel_rfl] at h0
 obtain ⟨n0,e0,u0⟩:=open_int1 (D:=y0.1) (Pl:=y0.2) h0
 simp only [List.drop_zero,List.drop_succ_cons,List.take_succ_cons,List.take_zero,List.cons.injEq,and_true] at e0
 have h1:DataW.trod enc Tryz.prog w0 0 (fun _=>true) true n 3 (([c0,c1,c2].drop 1).take (Tryz.prog.cellsOf 3))=some y1:=hf 1 _ rfl
 rw [show Tryz.prog.cellsOf 3=1 by kernel_rfl] at h1
 obtain ⟨n1,e1,u1⟩:=open_int1 (D:=y1.1) (Pl:=y1.2) h1
 simp only [List.drop_zero,List.drop_succ_cons,List.take_succ_cons,List.take_zero,List.cons.injEq,and_true] at e1
 have h2:DataW.trod enc Tryz.prog w0 0 (fun _=>true) true n 35 (([c0,c1,c2].drop 2).take (Tryz.prog.cellsOf 35))=some y2:=hf 2 _ rfl
 rw [show Tryz.prog.cellsOf 35=1 by kernel_rfl] at h2
 obtain ⟨l2,r2,z2⟩:=open_bytes (d:=y2.1) (p:=y2.2) h2 (fun m hm=>hB m (by
  simp only [DataW.weights,Tryz.underlying203]
  exact DataW.weights_mem_each (j:=2) (t:=35) M M m hm))
 subst e0 e1
 obtain ⟨a2,s2,rfl⟩:=r2.shape
 have hrb:=reachBytes_lt
 exact ⟨⟨n0,n1,l2⟩,a2,s2,rfl,r2⟩
theorem open_ents {fuel:Nat} {v:Value} {d:DataW H} {p:List MemPlace} (h:DataW.trod enc Tryz.prog w0 0 (fun _=>true) true fuel 53 [v]=some (d,p)) (hB:∀ n∈d.weights Tryz.prog 53,n≤reachBytes) :
  ∃ l:List Ent,RdL w0 0 v l∧l.length*40≤reachBytes∧∀ q∈l,True :=
 open_list (α:=Ent) (B:=40) (fun q=>True) Tryz.underlying53 (show Tryz.prog.cellsOf 203=_ by kernel_rfl) (by decide) (by kernel_rfl) (fun n x D Pl hx hw=>(open_ent hx hw).imp fun q h=>⟨h,trivial⟩) h hB
theorem open_rng {fuel:Nat} {x:List Value} {D:DataW H} {Pl:List MemPlace} (h:DataW.trod enc Tryz.prog w0 0 (fun _=>true) true fuel 80 x=some (D,Pl)) (hB:∀ m∈D.weights Tryz.prog 80,m≤reachBytes) :
  ∃ q:Rng,Rep.rd w0 0 q x∧Sl.I64 q.epoch:=by
 obtain ⟨xs,n,_,hd,hl,hlen,hf⟩:=DataW.trod_struct Tryz.underlying80 h
 have hlen':xs.length=4:=hlen
 clear hlen
 obtain ⟨y0,y1,y2,y3,rfl⟩:∃ y0 y1 y2 y3,xs=[y0,y1,y2,y3]:=by
  match xs,hlen' with
  | [y0,y1,y2,y3],_=>exact ⟨y0,y1,y2,y3,rfl⟩
 simp only [Prod.mk.injEq,List.map_cons,List.map_nil] at hd
 obtain ⟨rfl,_⟩:=hd
 rw [show Tryz.prog.cellsOf 80=4 by kernel_rfl] at hl
 obtain ⟨c0,c1,c2,c3,rfl⟩:∃ c0 c1 c2 c3,x=[c0,c1,c2,c3]:=by
  match x,hl with
  | [c0,c1,c2,c3],_=>exact ⟨c0,c1,c2,c3,rfl⟩
 have h0:DataW.trod enc Tryz.prog w0 0 (fun _=>true) true n 3 (([c0,c1,c2,c3].drop 0).take (Tryz.prog.cellsOf 3))=some y0:=hf 0 _ rfl
 rw [show Tryz.prog.cellsOf 3=1 by kernel_rfl] at h0
 obtain ⟨n0,e0,u0⟩:=open_int1 (D:=y0.1) (Pl:=y0.2) h0
 simp only [List.drop_zero,List.drop_succ_cons,List.take_succ_cons,List.take_zero,List.cons.injEq,and_true] at e0
 have h1:DataW.trod enc Tryz.prog w0 0 (fun _=>true) true n 3 (([c0,c1,c2,c3].drop 1).take (Tryz.prog.cellsOf 3))=some y1:=hf 1 _ rfl
 rw [show Tryz.prog.cellsOf 3=1 by kernel_rfl] at h1
 obtain ⟨n1,e1,u1⟩:=open_int1 (D:=y1.1) (Pl:=y1.2) h1
 simp only [List.drop_zero,List.drop_succ_cons,List.take_succ_cons,List.take_zero,List.cons.injEq,and_true] at e1
 have h2:DataW.trod enc Tryz.prog w0 0 (fun _=>true) true n 3 (([c0,c1,c2,c3].drop 2).take (Tryz.prog.cellsOf 3))=some y2:=hf 2 _ rfl
 rw [show Tryz.prog.cellsOf 3=1 by kernel_rfl] at h2
 obtain ⟨n2,e2,u2⟩:=open_int1 (D:=y2.1) (Pl:=y2.2) h2
 simp only [List.drop_zero,List.drop_succ_cons,List.take_succ_cons,List.take_zero,List.cons.injEq,and_true] at e2
 have h3:DataW.trod enc Tryz.prog w0 0 (fun _=>true) true n 3 (([c0,c1,c2,c3].drop 3).take (Tryz.prog.cellsOf 3))=some y3:=hf 3 _ rfl
 rw [show Tryz.prog.cellsOf 3=1 by kernel_rfl] at h3
 obtain ⟨n3,e3,u3⟩:=open_int1 (D:=y3.1) (Pl:=y3.2) h3
 simp only [List.drop_zero,List.drop_succ_cons,List.take_succ_cons,List.take_zero,List.cons.injEq,and_true] at e3
 subst e0 e1 e2 e3
 have hrb:=reachBytes_lt
 exact ⟨⟨n0,n1,n2,n3⟩,rfl,u3⟩
theorem open_rngs {fuel:Nat} {v:Value} {d:DataW H} {p:List MemPlace} (h:DataW.trod enc Tryz.prog w0 0 (fun _=>true) true fuel 29 [v]=some (d,p)) (hB:∀ n∈d.weights Tryz.prog 29,n≤reachBytes) :
  ∃ l:List Rng,RdL w0 0 v l∧l.length*32≤reachBytes∧∀ q∈l,Sl.I64 q.epoch :=
 open_list (α:=Rng) (B:=32) (fun q=>Sl.I64 q.epoch) Tryz.underlying29 (show Tryz.prog.cellsOf 80=_ by kernel_rfl) (by decide) (by kernel_rfl) (fun n x D Pl hx hw=>open_rng hx hw) h hB
theorem open_spn {fuel:Nat} {x:List Value} {D:DataW H} {Pl:List MemPlace} (h:DataW.trod enc Tryz.prog w0 0 (fun _=>true) true fuel 78 x=some (D,Pl)) (hB:∀ m∈D.weights Tryz.prog 78,m≤reachBytes) :
  ∃ q:Spn,Rep.rd w0 0 q x∧Sl.I64 q.lo∧Sl.I64 q.hi:=by
 obtain ⟨xs,n,_,hd,hl,hlen,hf⟩:=DataW.trod_struct Tryz.underlying78 h
 have hlen':xs.length=2:=hlen
 clear hlen
 obtain ⟨y0,y1,rfl⟩:∃ y0 y1,xs=[y0,y1]:=by
  match xs,hlen' with
  | [y0,y1],_=>exact ⟨y0,y1,rfl⟩
 simp only [Prod.mk.injEq,List.map_cons,List.map_nil] at hd
 obtain ⟨rfl,_⟩:=hd
 rw [show Tryz.prog.cellsOf 78=2 by kernel_rfl] at hl
 obtain ⟨c0,c1,rfl⟩:∃ c0 c1,x=[c0,c1]:=by
  match x,hl with
  | [c0,c1],_=>exact ⟨c0,c1,rfl⟩
 have h0:DataW.trod enc Tryz.prog w0 0 (fun _=>true) true n 3 (([c0,c1].drop 0).take (Tryz.prog.cellsOf 3))=some y0:=hf 0 _ rfl
 rw [show Tryz.prog.cellsOf 3=1 by kernel_rfl] at h0
 obtain ⟨n0,e0,u0⟩:=open_int1 (D:=y0.1) (Pl:=y0.2) h0
 simp only [List.drop_zero,List.drop_succ_cons,List.take_succ_cons,List.take_zero,List.cons.injEq,and_true] at e0
 have h1:DataW.trod enc Tryz.prog w0 0 (fun _=>true) true n 3 (([c0,c1].drop 1).take (Tryz.prog.cellsOf 3))=some y1:=hf 1 _ rfl
 rw [show Tryz.prog.cellsOf 3=1 by kernel_rfl] at h1
 obtain ⟨n1,e1,u1⟩:=open_int1 (D:=y1.1) (Pl:=y1.2) h1
 simp only [List.drop_zero,List.drop_succ_cons,List.take_succ_cons,List.take_zero,List.cons.injEq,and_true] at e1
 subst e0 e1
 have hrb:=reachBytes_lt
 exact ⟨⟨n0,n1⟩,rfl,u0,u1⟩
theorem open_spns {fuel:Nat} {v:Value} {d:DataW H} {p:List MemPlace} (h:DataW.trod enc Tryz.prog w0 0 (fun _=>true) true fuel 30 [v]=some (d,p)) (hB:∀ n∈d.weights Tryz.prog 30,n≤reachBytes) :
  ∃ l:List Spn,RdL w0 0 v l∧l.length*16≤reachBytes∧∀ q∈l,Sl.I64 q.lo∧Sl.I64 q.hi :=
 open_list (α:=Spn) (B:=16) (fun q=>Sl.I64 q.lo∧Sl.I64 q.hi) Tryz.underlying30 (show Tryz.prog.cellsOf 78=_ by kernel_rfl) (by decide) (by kernel_rfl) (fun n x D Pl hx hw=>open_spn hx hw) h hB
theorem open_li {fuel:Nat} {x:List Value} {D:DataW H} {Pl:List MemPlace} (h:DataW.trod enc Tryz.prog w0 0 (fun _=>true) true fuel 61 x=some (D,Pl)) (hB:∀ m∈D.weights Tryz.prog 61,m≤reachBytes):∃ q:List Int,Rep.rd w0 0 q x:=by
 obtain ⟨v,rfl⟩:∃ v,x=[v]:=by
  rcases open_slice Tryz.underlying61 h with ⟨hc,_⟩|⟨a,len,cap,m,n',D,Pl,hc,_⟩
  ·exact ⟨_,hc⟩
  ·exact ⟨_,hc⟩
 obtain ⟨l,r,_⟩:=open_ints h hB
 obtain ⟨a,s,rfl⟩:=r.shape
 exact ⟨l,a,s,rfl,r⟩
theorem open_lis0 {fuel:Nat} {v:Value} {d:DataW H} {p:List MemPlace} (h:DataW.trod enc Tryz.prog w0 0 (fun _=>true) true fuel 28 [v]=some (d,p)) (hB:∀ n∈d.weights Tryz.prog 28,n≤reachBytes) :
  ∃ l:List (List Int),RdL w0 0 v l∧l.length*24≤reachBytes∧∀ q∈l,True :=
 open_list (α:=(List Int)) (B:=24) (fun q=>True) Tryz.underlying28 (show Tryz.prog.cellsOf 61=_ by kernel_rfl) (by decide) (by kernel_rfl) (fun n x D Pl hx hw=>(open_li hx hw).imp fun q h=>⟨h,trivial⟩) h hB
theorem open_lis {fuel:Nat} {v:Value} {d:DataW H} {p:List MemPlace} (h:DataW.trod enc Tryz.prog w0 0 (fun _=>true) true fuel 28 [v]=some (d,p)) (hB:∀ n∈d.weights Tryz.prog 28,n≤reachBytes):∃ l:List (List Int),RdL w0 0 v l∧l.length*24≤reachBytes:=by
 obtain ⟨l,h1,h2,_⟩:=open_lis0 h hB
 exact ⟨l,h1,h2⟩
theorem open_call {fuel:Nat} {x:List Value} {D:DataW H} {Pl:List MemPlace} (h:DataW.trod enc Tryz.prog w0 0 (fun _=>true) true fuel 41 x=some (D,Pl)) (hB:∀ m∈D.weights Tryz.prog 41,m≤reachBytes) :
  ∃ (q:Cal) (d:List Bt) (a:Option Addr) (c:Nat),x=cellsX q (.slice a d.length c)∧RdL w0 0 (.slice a d.length c) d∧CalSz q:=by
 obtain ⟨xs,n,_,hd,hl,hlen,hf⟩:=DataW.trod_struct Tryz.underlying41 h
 have hlen':xs.length=13:=hlen
 clear hlen
 obtain ⟨y0,y1,y2,y3,y4,y5,y6,y7,y8,y9,y10,y11,y12,rfl⟩:∃ y0 y1 y2 y3 y4 y5 y6 y7 y8 y9 y10 y11 y12,xs=[y0,y1,y2,y3,y4,y5,y6,y7,y8,y9,y10,y11,y12]:=by
  match xs,hlen' with
  | [y0,y1,y2,y3,y4,y5,y6,y7,y8,y9,y10,y11,y12],_=>exact ⟨y0,y1,y2,y3,y4,y5,y6,y7,y8,y9,y10,y11,y12,rfl⟩
 simp only [Prod.mk.injEq,List.map_cons,List.map_nil] at hd
 obtain ⟨rfl,_⟩:=hd
 rw [show Tryz.prog.cellsOf 41=13 by kernel_rfl] at hl
 obtain ⟨c0,c1,c2,c3,c4,c5,c6,c7,c8,c9,c10,c11,c12,rfl⟩:∃ c0 c1 c2 c3 c4 c5 c6 c7 c8 c9 c10 c11 c12,x=[c0,c1,c2,c3,c4,c5,c6,c7,c8,c9,c10,c11,c12]:=by
  match x,hl with
  | [c0,c1,c2,c3,c4,c5,c6,c7,c8,c9,c10,c11,c12],_=>exact ⟨c0,c1,c2,c3,c4,c5,c6,c7,c8,c9,c10,c11,c12,rfl⟩
 have h0:DataW.trod enc Tryz.prog w0 0 (fun _=>true) true n 3 (([c0,c1,c2,c3,c4,c5,c6,c7,c8,c9,c10,c11,c12].drop 0).take (Tryz.prog.cellsOf 3))=some y0:=hf 0 _ rfl
 rw [show Tryz.prog.cellsOf 3=1 by kernel_rfl] at h0
 obtain ⟨n0,e0,u0⟩:=open_int1 (D:=y0.1) (Pl:=y0.2) h0
 simp only [List.drop_zero,List.drop_succ_cons,List.take_succ_cons,List.take_zero,List.cons.injEq,and_true] at e0
 have h1:DataW.trod enc Tryz.prog w0 0 (fun _=>true) true n 3 (([c0,c1,c2,c3,c4,c5,c6,c7,c8,c9,c10,c11,c12].drop 1).take (Tryz.prog.cellsOf 3))=some y1:=hf 1 _ rfl
 rw [show Tryz.prog.cellsOf 3=1 by kernel_rfl] at h1
 obtain ⟨n1,e1,u1⟩:=open_int1 (D:=y1.1) (Pl:=y1.2) h1
 simp only [List.drop_zero,List.drop_succ_cons,List.take_succ_cons,List.take_zero,List.cons.injEq,and_true] at e1
 have h2:DataW.trod enc Tryz.prog w0 0 (fun _=>true) true n 3 (([c0,c1,c2,c3,c4,c5,c6,c7,c8,c9,c10,c11,c12].drop 2).take (Tryz.prog.cellsOf 3))=some y2:=hf 2 _ rfl
 rw [show Tryz.prog.cellsOf 3=1 by kernel_rfl] at h2
 obtain ⟨n2,e2,u2⟩:=open_int1 (D:=y2.1) (Pl:=y2.2) h2
 simp only [List.drop_zero,List.drop_succ_cons,List.take_succ_cons,List.take_zero,List.cons.injEq,and_true] at e2
 have h3:DataW.trod enc Tryz.prog w0 0 (fun _=>true) true n 3 (([c0,c1,c2,c3,c4,c5,c6,c7,c8,c9,c10,c11,c12].drop 3).take (Tryz.prog.cellsOf 3))=some y3:=hf 3 _ rfl
 rw [show Tryz.prog.cellsOf 3=1 by kernel_rfl] at h3
 obtain ⟨n3,e3,u3⟩:=open_int1 (D:=y3.1) (Pl:=y3.2) h3
 simp only [List.drop_zero,List.drop_succ_cons,List.take_succ_cons,List.take_zero,List.cons.injEq,and_true] at e3
 have h4:DataW.trod enc Tryz.prog w0 0 (fun _=>true) true n 3 (([c0,c1,c2,c3,c4,c5,c6,c7,c8,c9,c10,c11,c12].drop 4).take (Tryz.prog.cellsOf 3))=some y4:=hf 4 _ rfl
 rw [show Tryz.prog.cellsOf 3=1 by kernel_rfl] at h4
 obtain ⟨n4,e4,u4⟩:=open_int1 (D:=y4.1) (Pl:=y4.2) h4
 simp only [List.drop_zero,List.drop_succ_cons,List.take_succ_cons,List.take_zero,List.cons.injEq,and_true] at e4
 have h5:DataW.trod enc Tryz.prog w0 0 (fun _=>true) true n 3 (([c0,c1,c2,c3,c4,c5,c6,c7,c8,c9,c10,c11,c12].drop 5).take (Tryz.prog.cellsOf 3))=some y5:=hf 5 _ rfl
 rw [show Tryz.prog.cellsOf 3=1 by kernel_rfl] at h5
 obtain ⟨n5,e5,u5⟩:=open_int1 (D:=y5.1) (Pl:=y5.2) h5
 simp only [List.drop_zero,List.drop_succ_cons,List.take_succ_cons,List.take_zero,List.cons.injEq,and_true] at e5
 have h6:DataW.trod enc Tryz.prog w0 0 (fun _=>true) true n 3 (([c0,c1,c2,c3,c4,c5,c6,c7,c8,c9,c10,c11,c12].drop 6).take (Tryz.prog.cellsOf 3))=some y6:=hf 6 _ rfl
 rw [show Tryz.prog.cellsOf 3=1 by kernel_rfl] at h6
 obtain ⟨n6,e6,u6⟩:=open_int1 (D:=y6.1) (Pl:=y6.2) h6
 simp only [List.drop_zero,List.drop_succ_cons,List.take_succ_cons,List.take_zero,List.cons.injEq,and_true] at e6
 have h7:DataW.trod enc Tryz.prog w0 0 (fun _=>true) true n 3 (([c0,c1,c2,c3,c4,c5,c6,c7,c8,c9,c10,c11,c12].drop 7).take (Tryz.prog.cellsOf 3))=some y7:=hf 7 _ rfl
 rw [show Tryz.prog.cellsOf 3=1 by kernel_rfl] at h7
 obtain ⟨n7,e7,u7⟩:=open_int1 (D:=y7.1) (Pl:=y7.2) h7
 simp only [List.drop_zero,List.drop_succ_cons,List.take_succ_cons,List.take_zero,List.cons.injEq,and_true] at e7
 have h8:DataW.trod enc Tryz.prog w0 0 (fun _=>true) true n 3 (([c0,c1,c2,c3,c4,c5,c6,c7,c8,c9,c10,c11,c12].drop 8).take (Tryz.prog.cellsOf 3))=some y8:=hf 8 _ rfl
 rw [show Tryz.prog.cellsOf 3=1 by kernel_rfl] at h8
 obtain ⟨n8,e8,u8⟩:=open_int1 (D:=y8.1) (Pl:=y8.2) h8
 simp only [List.drop_zero,List.drop_succ_cons,List.take_succ_cons,List.take_zero,List.cons.injEq,and_true] at e8
 have h9:DataW.trod enc Tryz.prog w0 0 (fun _=>true) true n 3 (([c0,c1,c2,c3,c4,c5,c6,c7,c8,c9,c10,c11,c12].drop 9).take (Tryz.prog.cellsOf 3))=some y9:=hf 9 _ rfl
 rw [show Tryz.prog.cellsOf 3=1 by kernel_rfl] at h9
 obtain ⟨n9,e9,u9⟩:=open_int1 (D:=y9.1) (Pl:=y9.2) h9
 simp only [List.drop_zero,List.drop_succ_cons,List.take_succ_cons,List.take_zero,List.cons.injEq,and_true] at e9
 have h10:DataW.trod enc Tryz.prog w0 0 (fun _=>true) true n 3 (([c0,c1,c2,c3,c4,c5,c6,c7,c8,c9,c10,c11,c12].drop 10).take (Tryz.prog.cellsOf 3))=some y10:=hf 10 _ rfl
 rw [show Tryz.prog.cellsOf 3=1 by kernel_rfl] at h10
 obtain ⟨n10,e10,u10⟩:=open_int1 (D:=y10.1) (Pl:=y10.2) h10
 simp only [List.drop_zero,List.drop_succ_cons,List.take_succ_cons,List.take_zero,List.cons.injEq,and_true] at e10
 have h11:DataW.trod enc Tryz.prog w0 0 (fun _=>true) true n 3 (([c0,c1,c2,c3,c4,c5,c6,c7,c8,c9,c10,c11,c12].drop 11).take (Tryz.prog.cellsOf 3))=some y11:=hf 11 _ rfl
 rw [show Tryz.prog.cellsOf 3=1 by kernel_rfl] at h11
 obtain ⟨n11,e11,u11⟩:=open_int1 (D:=y11.1) (Pl:=y11.2) h11
 simp only [List.drop_zero,List.drop_succ_cons,List.take_succ_cons,List.take_zero,List.cons.injEq,and_true] at e11
 have h12:DataW.trod enc Tryz.prog w0 0 (fun _=>true) true n 35 (([c0,c1,c2,c3,c4,c5,c6,c7,c8,c9,c10,c11,c12].drop 12).take (Tryz.prog.cellsOf 35))=some y12:=hf 12 _ rfl
 rw [show Tryz.prog.cellsOf 35=1 by kernel_rfl] at h12
 obtain ⟨l12,r12,z12⟩:=open_bytes (d:=y12.1) (p:=y12.2) h12 (fun m hm=>hB m (by
  simp only [DataW.weights,Tryz.underlying41]
  exact DataW.weights_mem_each (j:=12) (t:=35) M M m hm))
 subst e0 e1 e2 e3 e4 e5 e6 e7 e8 e9 e10 e11
 obtain ⟨a12,s12,rfl⟩:=r12.shape
 have hrb:=reachBytes_lt
 exact ⟨⟨n0,n1,n2,n3,n4,n5,n6,n7,n8,n9,n10,n11⟩,l12,a12,s12,rfl,r12,⟨u1,u3,u5,u6,u7,u8,u10,u11⟩⟩
theorem open_pkt {fuel:Nat} {x:List Value} {D:DataW H} {Pl:List MemPlace} (h:DataW.trod enc Tryz.prog w0 0 (fun _=>true) true fuel 52 x=some (D,Pl)) (hB:∀ m∈D.weights Tryz.prog 52,m≤reachBytes) :
  ∃ (q:Sl.Pkt) (a:Option Addr) (c:Nat),x=[.int .i64 q.src,.int .i64 q.dst,.slice a q.bytes.length c]∧RdL w0 0 (.slice a q.bytes.length c) q.bytes∧q.bytes.length≤c:=by
 obtain ⟨xs,n,_,hd,hl,hlen,hf⟩:=DataW.trod_struct Tryz.underlying52 h
 have hlen':xs.length=3:=hlen
 clear hlen
 obtain ⟨y0,y1,y2,rfl⟩:∃ y0 y1 y2,xs=[y0,y1,y2]:=by
  match xs,hlen' with
  | [y0,y1,y2],_=>exact ⟨y0,y1,y2,rfl⟩
 simp only [Prod.mk.injEq,List.map_cons,List.map_nil] at hd
 obtain ⟨rfl,_⟩:=hd
 rw [show Tryz.prog.cellsOf 52=3 by kernel_rfl] at hl
 obtain ⟨c0,c1,c2,rfl⟩:∃ c0 c1 c2,x=[c0,c1,c2]:=by
  match x,hl with
  | [c0,c1,c2],_=>exact ⟨c0,c1,c2,rfl⟩
 have h0:DataW.trod enc Tryz.prog w0 0 (fun _=>true) true n 3 (([c0,c1,c2].drop 0).take (Tryz.prog.cellsOf 3))=some y0:=hf 0 _ rfl
 rw [show Tryz.prog.cellsOf 3=1 by kernel_rfl] at h0
 obtain ⟨n0,e0,u0⟩:=open_int1 (D:=y0.1) (Pl:=y0.2) h0
 simp only [List.drop_zero,List.drop_succ_cons,List.take_succ_cons,List.take_zero,List.cons.injEq,and_true] at e0
 have h1:DataW.trod enc Tryz.prog w0 0 (fun _=>true) true n 3 (([c0,c1,c2].drop 1).take (Tryz.prog.cellsOf 3))=some y1:=hf 1 _ rfl
 rw [show Tryz.prog.cellsOf 3=1 by kernel_rfl] at h1
 obtain ⟨n1,e1,u1⟩:=open_int1 (D:=y1.1) (Pl:=y1.2) h1
 simp only [List.drop_zero,List.drop_succ_cons,List.take_succ_cons,List.take_zero,List.cons.injEq,and_true] at e1
 have h2:DataW.trod enc Tryz.prog w0 0 (fun _=>true) true n 35 (([c0,c1,c2].drop 2).take (Tryz.prog.cellsOf 35))=some y2:=hf 2 _ rfl
 rw [show Tryz.prog.cellsOf 35=1 by kernel_rfl] at h2
 obtain ⟨l2,r2,z2⟩:=open_bytes (d:=y2.1) (p:=y2.2) h2 (fun m hm=>hB m (by
  simp only [DataW.weights,Tryz.underlying52]
  exact DataW.weights_mem_each (j:=2) (t:=35) M M m hm))
 subst e0 e1
 obtain ⟨a2,s2,rfl⟩:=r2.shape
 have hrb:=reachBytes_lt
 exact ⟨⟨n0,n1,l2⟩,a2,s2,rfl,r2,open_cap (d:=y2.1) (p:=y2.2) Tryz.underlying35 h2⟩
theorem open_msg {fuel:Nat} {x:List Value} {D:DataW H} {Pl:List MemPlace} (h:DataW.trod enc Tryz.prog w0 0 (fun _=>true) true fuel 55 x=some (D,Pl)) (hB:∀ m∈D.weights Tryz.prog 55,m≤reachBytes) :
  ∃ (q:Msg) (a:Option Addr) (c:Nat) (a2:Option Addr) (c2:Nat),x=cellsM q (.slice a q.entries.length c) (.slice a2 q.data.length c2)∧RdL w0 0 (.slice a q.entries.length c) q.entries∧RdL w0 0 (.slice a2 q.data.length c2) q.data∧q.entries.length≤10000000000000:=by
 obtain ⟨xs,n,_,hd,hl,hlen,hf⟩:=DataW.trod_struct Tryz.underlying55 h
 have hlen':xs.length=17:=hlen
 clear hlen
 obtain ⟨y0,y1,y2,y3,y4,y5,y6,y7,y8,y9,y10,y11,y12,y13,y14,y15,y16,rfl⟩:∃ y0 y1 y2 y3 y4 y5 y6 y7 y8 y9 y10 y11 y12 y13 y14 y15 y16,xs=[y0,y1,y2,y3,y4,y5,y6,y7,y8,y9,y10,y11,y12,y13,y14,y15,y16]:=by
  match xs,hlen' with
  | [y0,y1,y2,y3,y4,y5,y6,y7,y8,y9,y10,y11,y12,y13,y14,y15,y16],_=>exact ⟨y0,y1,y2,y3,y4,y5,y6,y7,y8,y9,y10,y11,y12,y13,y14,y15,y16,rfl⟩
 simp only [Prod.mk.injEq,List.map_cons,List.map_nil] at hd
 obtain ⟨rfl,_⟩:=hd
 rw [show Tryz.prog.cellsOf 55=17 by kernel_rfl] at hl
 obtain ⟨c0,c1,c2,c3,c4,c5,c6,c7,c8,c9,c10,c11,c12,c13,c14,c15,c16,rfl⟩:∃ c0 c1 c2 c3 c4 c5 c6 c7 c8 c9 c10 c11 c12 c13 c14 c15 c16,x=[c0,c1,c2,c3,c4,c5,c6,c7,c8,c9,c10,c11,c12,c13,c14,c15,c16]:=by
  match x,hl with
  | [c0,c1,c2,c3,c4,c5,c6,c7,c8,c9,c10,c11,c12,c13,c14,c15,c16],_=>exact ⟨c0,c1,c2,c3,c4,c5,c6,c7,c8,c9,c10,c11,c12,c13,c14,c15,c16,rfl⟩
 have h0:DataW.trod enc Tryz.prog w0 0 (fun _=>true) true n 3 (([c0,c1,c2,c3,c4,c5,c6,c7,c8,c9,c10,c11,c12,c13,c14,c15,c16].drop 0).take (Tryz.prog.cellsOf 3))=some y0:=hf 0 _ rfl
 rw [show Tryz.prog.cellsOf 3=1 by kernel_rfl] at h0
 obtain ⟨n0,e0,u0⟩:=open_int1 (D:=y0.1) (Pl:=y0.2) h0
 simp only [List.drop_zero,List.drop_succ_cons,List.take_succ_cons,List.take_zero,List.cons.injEq,and_true] at e0
 have h1:DataW.trod enc Tryz.prog w0 0 (fun _=>true) true n 3 (([c0,c1,c2,c3,c4,c5,c6,c7,c8,c9,c10,c11,c12,c13,c14,c15,c16].drop 1).take (Tryz.prog.cellsOf 3))=some y1:=hf 1 _ rfl
 rw [show Tryz.prog.cellsOf 3=1 by kernel_rfl] at h1
 obtain ⟨n1,e1,u1⟩:=open_int1 (D:=y1.1) (Pl:=y1.2) h1
 simp only [List.drop_zero,List.drop_succ_cons,List.take_succ_cons,List.take_zero,List.cons.injEq,and_true] at e1
 have h2:DataW.trod enc Tryz.prog w0 0 (fun _=>true) true n 3 (([c0,c1,c2,c3,c4,c5,c6,c7,c8,c9,c10,c11,c12,c13,c14,c15,c16].drop 2).take (Tryz.prog.cellsOf 3))=some y2:=hf 2 _ rfl
 rw [show Tryz.prog.cellsOf 3=1 by kernel_rfl] at h2
 obtain ⟨n2,e2,u2⟩:=open_int1 (D:=y2.1) (Pl:=y2.2) h2
 simp only [List.drop_zero,List.drop_succ_cons,List.take_succ_cons,List.take_zero,List.cons.injEq,and_true] at e2
 have h3:DataW.trod enc Tryz.prog w0 0 (fun _=>true) true n 3 (([c0,c1,c2,c3,c4,c5,c6,c7,c8,c9,c10,c11,c12,c13,c14,c15,c16].drop 3).take (Tryz.prog.cellsOf 3))=some y3:=hf 3 _ rfl
 rw [show Tryz.prog.cellsOf 3=1 by kernel_rfl] at h3
 obtain ⟨n3,e3,u3⟩:=open_int1 (D:=y3.1) (Pl:=y3.2) h3
 simp only [List.drop_zero,List.drop_succ_cons,List.take_succ_cons,List.take_zero,List.cons.injEq,and_true] at e3
 have h4:DataW.trod enc Tryz.prog w0 0 (fun _=>true) true n 3 (([c0,c1,c2,c3,c4,c5,c6,c7,c8,c9,c10,c11,c12,c13,c14,c15,c16].drop 4).take (Tryz.prog.cellsOf 3))=some y4:=hf 4 _ rfl
 rw [show Tryz.prog.cellsOf 3=1 by kernel_rfl] at h4
 obtain ⟨n4,e4,u4⟩:=open_int1 (D:=y4.1) (Pl:=y4.2) h4
 simp only [List.drop_zero,List.drop_succ_cons,List.take_succ_cons,List.take_zero,List.cons.injEq,and_true] at e4
 have h5:DataW.trod enc Tryz.prog w0 0 (fun _=>true) true n 3 (([c0,c1,c2,c3,c4,c5,c6,c7,c8,c9,c10,c11,c12,c13,c14,c15,c16].drop 5).take (Tryz.prog.cellsOf 3))=some y5:=hf 5 _ rfl
 rw [show Tryz.prog.cellsOf 3=1 by kernel_rfl] at h5
 obtain ⟨n5,e5,u5⟩:=open_int1 (D:=y5.1) (Pl:=y5.2) h5
 simp only [List.drop_zero,List.drop_succ_cons,List.take_succ_cons,List.take_zero,List.cons.injEq,and_true] at e5
 have h6:DataW.trod enc Tryz.prog w0 0 (fun _=>true) true n 3 (([c0,c1,c2,c3,c4,c5,c6,c7,c8,c9,c10,c11,c12,c13,c14,c15,c16].drop 6).take (Tryz.prog.cellsOf 3))=some y6:=hf 6 _ rfl
 rw [show Tryz.prog.cellsOf 3=1 by kernel_rfl] at h6
 obtain ⟨n6,e6,u6⟩:=open_int1 (D:=y6.1) (Pl:=y6.2) h6
 simp only [List.drop_zero,List.drop_succ_cons,List.take_succ_cons,List.take_zero,List.cons.injEq,and_true] at e6
 have h7:DataW.trod enc Tryz.prog w0 0 (fun _=>true) true n 3 (([c0,c1,c2,c3,c4,c5,c6,c7,c8,c9,c10,c11,c12,c13,c14,c15,c16].drop 7).take (Tryz.prog.cellsOf 3))=some y7:=hf 7 _ rfl
 rw [show Tryz.prog.cellsOf 3=1 by kernel_rfl] at h7
 obtain ⟨n7,e7,u7⟩:=open_int1 (D:=y7.1) (Pl:=y7.2) h7
 simp only [List.drop_zero,List.drop_succ_cons,List.take_succ_cons,List.take_zero,List.cons.injEq,and_true] at e7
 have h8:DataW.trod enc Tryz.prog w0 0 (fun _=>true) true n 3 (([c0,c1,c2,c3,c4,c5,c6,c7,c8,c9,c10,c11,c12,c13,c14,c15,c16].drop 8).take (Tryz.prog.cellsOf 3))=some y8:=hf 8 _ rfl
 rw [show Tryz.prog.cellsOf 3=1 by kernel_rfl] at h8
 obtain ⟨n8,e8,u8⟩:=open_int1 (D:=y8.1) (Pl:=y8.2) h8
 simp only [List.drop_zero,List.drop_succ_cons,List.take_succ_cons,List.take_zero,List.cons.injEq,and_true] at e8
 have h9:DataW.trod enc Tryz.prog w0 0 (fun _=>true) true n 3 (([c0,c1,c2,c3,c4,c5,c6,c7,c8,c9,c10,c11,c12,c13,c14,c15,c16].drop 9).take (Tryz.prog.cellsOf 3))=some y9:=hf 9 _ rfl
 rw [show Tryz.prog.cellsOf 3=1 by kernel_rfl] at h9
 obtain ⟨n9,e9,u9⟩:=open_int1 (D:=y9.1) (Pl:=y9.2) h9
 simp only [List.drop_zero,List.drop_succ_cons,List.take_succ_cons,List.take_zero,List.cons.injEq,and_true] at e9
 have h10:DataW.trod enc Tryz.prog w0 0 (fun _=>true) true n 3 (([c0,c1,c2,c3,c4,c5,c6,c7,c8,c9,c10,c11,c12,c13,c14,c15,c16].drop 10).take (Tryz.prog.cellsOf 3))=some y10:=hf 10 _ rfl
 rw [show Tryz.prog.cellsOf 3=1 by kernel_rfl] at h10
 obtain ⟨n10,e10,u10⟩:=open_int1 (D:=y10.1) (Pl:=y10.2) h10
 simp only [List.drop_zero,List.drop_succ_cons,List.take_succ_cons,List.take_zero,List.cons.injEq,and_true] at e10
 have h11:DataW.trod enc Tryz.prog w0 0 (fun _=>true) true n 3 (([c0,c1,c2,c3,c4,c5,c6,c7,c8,c9,c10,c11,c12,c13,c14,c15,c16].drop 11).take (Tryz.prog.cellsOf 3))=some y11:=hf 11 _ rfl
 rw [show Tryz.prog.cellsOf 3=1 by kernel_rfl] at h11
 obtain ⟨n11,e11,u11⟩:=open_int1 (D:=y11.1) (Pl:=y11.2) h11
 simp only [List.drop_zero,List.drop_succ_cons,List.take_succ_cons,List.take_zero,List.cons.injEq,and_true] at e11
 have h12:DataW.trod enc Tryz.prog w0 0 (fun _=>true) true n 3 (([c0,c1,c2,c3,c4,c5,c6,c7,c8,c9,c10,c11,c12,c13,c14,c15,c16].drop 12).take (Tryz.prog.cellsOf 3))=some y12:=hf 12 _ rfl
 rw [show Tryz.prog.cellsOf 3=1 by kernel_rfl] at h12
 obtain ⟨n12,e12,u12⟩:=open_int1 (D:=y12.1) (Pl:=y12.2) h12
 simp only [List.drop_zero,List.drop_succ_cons,List.take_succ_cons,List.take_zero,List.cons.injEq,and_true] at e12
 have h13:DataW.trod enc Tryz.prog w0 0 (fun _=>true) true n 3 (([c0,c1,c2,c3,c4,c5,c6,c7,c8,c9,c10,c11,c12,c13,c14,c15,c16].drop 13).take (Tryz.prog.cellsOf 3))=some y13:=hf 13 _ rfl
 rw [show Tryz.prog.cellsOf 3=1 by kernel_rfl] at h13
 obtain ⟨n13,e13,u13⟩:=open_int1 (D:=y13.1) (Pl:=y13.2) h13
 simp only [List.drop_zero,List.drop_succ_cons,List.take_succ_cons,List.take_zero,List.cons.injEq,and_true] at e13
 have h14:DataW.trod enc Tryz.prog w0 0 (fun _=>true) true n 4 (([c0,c1,c2,c3,c4,c5,c6,c7,c8,c9,c10,c11,c12,c13,c14,c15,c16].drop 14).take (Tryz.prog.cellsOf 4))=some y14:=hf 14 _ rfl
 rw [show Tryz.prog.cellsOf 4=1 by kernel_rfl] at h14
 obtain ⟨b14,e14,_⟩:=DataW.trod_bool Tryz.underlying4 h14
 simp only [List.drop_zero,List.drop_succ_cons,List.take_succ_cons,List.take_zero,List.cons.injEq,and_true] at e14
 have h15:DataW.trod enc Tryz.prog w0 0 (fun _=>true) true n 53 (([c0,c1,c2,c3,c4,c5,c6,c7,c8,c9,c10,c11,c12,c13,c14,c15,c16].drop 15).take (Tryz.prog.cellsOf 53))=some y15:=hf 15 _ rfl
 rw [show Tryz.prog.cellsOf 53=1 by kernel_rfl] at h15
 obtain ⟨l15,r15,z15,q15⟩:=open_ents (d:=y15.1) (p:=y15.2) h15 (fun m hm=>hB m (by
  simp only [DataW.weights,Tryz.underlying55]
  exact DataW.weights_mem_each (j:=15) (t:=53) M M m hm))
 have h16:DataW.trod enc Tryz.prog w0 0 (fun _=>true) true n 35 (([c0,c1,c2,c3,c4,c5,c6,c7,c8,c9,c10,c11,c12,c13,c14,c15,c16].drop 16).take (Tryz.prog.cellsOf 35))=some y16:=hf 16 _ rfl
 rw [show Tryz.prog.cellsOf 35=1 by kernel_rfl] at h16
 obtain ⟨l16,r16,z16⟩:=open_bytes (d:=y16.1) (p:=y16.2) h16 (fun m hm=>hB m (by
  simp only [DataW.weights,Tryz.underlying55]
  exact DataW.weights_mem_each (j:=16) (t:=35) M M m hm))
 subst e0 e1 e2 e3 e4 e5 e6 e7 e8 e9 e10 e11 e12 e13 e14
 obtain ⟨a15,s15,rfl⟩:=r15.shape
 obtain ⟨a16,s16,rfl⟩:=r16.shape
 have hrb:=reachBytes_lt
 exact ⟨⟨n0,n1,n2,n3,n4,n5,n6,n7,n8,n9,n10,n11,n12,n13,b14,l15,l16⟩,a15,s15,a16,s16,rfl,r15,r16,by show l15.length≤_; omega⟩
theorem open_lop {fuel:Nat} {x:List Value} {D:DataW H} {Pl:List MemPlace} (h:DataW.trod enc Tryz.prog w0 0 (fun _=>true) true fuel 57 x=some (D,Pl)) (hB:∀ m∈D.weights Tryz.prog 57,m≤reachBytes) :
  ∃ q:Lop,Rep.rd w0 0 q x∧LopIn q:=by
 obtain ⟨xs,n,_,hd,hl,hlen,hf⟩:=DataW.trod_struct Tryz.underlying57 h
 have hlen':xs.length=4:=hlen
 clear hlen
 obtain ⟨y0,y1,y2,y3,rfl⟩:∃ y0 y1 y2 y3,xs=[y0,y1,y2,y3]:=by
  match xs,hlen' with
  | [y0,y1,y2,y3],_=>exact ⟨y0,y1,y2,y3,rfl⟩
 simp only [Prod.mk.injEq,List.map_cons,List.map_nil] at hd
 obtain ⟨rfl,_⟩:=hd
 rw [show Tryz.prog.cellsOf 57=34 by kernel_rfl] at hl
 obtain ⟨c0,c1,c2,c3,c4,c5,c6,c7,c8,c9,c10,c11,c12,c13,c14,c15,c16,c17,c18,c19,c20,c21,c22,c23,c24,c25,c26,c27,c28,c29,c30,c31,c32,c33,rfl⟩:∃ c0 c1 c2 c3 c4 c5 c6 c7 c8 c9 c10 c11 c12 c13 c14 c15 c16 c17 c18 c19 c20 c21 c22 c23 c24 c25 c26 c27 c28 c29 c30 c31 c32 c33,x=(c0::c1::c2::c3::c4::c5::c6::c7::c8::c9::c10::c11::c12::c13::c14::c15::c16::c17::c18::c19::c20::c21::c22::c23::c24::c25::c26::c27::c28::c29::c30::c31::c32::c33::[]):=by
  match x,hl with
  | (c0::c1::c2::c3::c4::c5::c6::c7::c8::c9::c10::c11::c12::c13::c14::c15::c16::c17::c18::c19::c20::c21::c22::c23::c24::c25::c26::c27::c28::c29::c30::c31::c32::c33::[]),_=>exact ⟨c0,c1,c2,c3,c4,c5,c6,c7,c8,c9,c10,c11,c12,c13,c14,c15,c16,c17,c18,c19,c20,c21,c22,c23,c24,c25,c26,c27,c28,c29,c30,c31,c32,c33,rfl⟩
 have h0:DataW.trod enc Tryz.prog w0 0 (fun _=>true) true n 3 (((c0::c1::c2::c3::c4::c5::c6::c7::c8::c9::c10::c11::c12::c13::c14::c15::c16::c17::c18::c19::c20::c21::c22::c23::c24::c25::c26::c27::c28::c29::c30::c31::c32::c33::[]).drop 0).take (Tryz.prog.cellsOf 3))=some y0:=hf 0 _ rfl
 rw [show Tryz.prog.cellsOf 3=1 by kernel_rfl] at h0
 obtain ⟨n0,e0,u0⟩:=open_int1 (D:=y0.1) (Pl:=y0.2) h0
 simp only [List.drop_zero,List.drop_succ_cons,List.take_succ_cons,List.take_zero,List.cons.injEq,and_true] at e0
 have h1:DataW.trod enc Tryz.prog w0 0 (fun _=>true) true n 41 (((c0::c1::c2::c3::c4::c5::c6::c7::c8::c9::c10::c11::c12::c13::c14::c15::c16::c17::c18::c19::c20::c21::c22::c23::c24::c25::c26::c27::c28::c29::c30::c31::c32::c33::[]).drop 1).take (Tryz.prog.cellsOf 41))=some y1:=hf 1 _ rfl
 rw [show Tryz.prog.cellsOf 41=13 by kernel_rfl] at h1
 simp only [List.drop_zero,List.drop_succ_cons,List.take_succ_cons,List.take_zero,List.cons.injEq,and_true] at h1
 obtain ⟨q1,d1,a1,s1,e1,r1,u1⟩:=open_call (D:=y1.1) (Pl:=y1.2) h1 (fun m hm=>hB m (by
  simp only [DataW.weights,Tryz.underlying57]
  exact DataW.weights_mem_each (j:=1) (t:=41) M M m hm))
 simp only [cellsX,List.cons.injEq,and_true] at e1
 have h2:DataW.trod enc Tryz.prog w0 0 (fun _=>true) true n 52 (((c0::c1::c2::c3::c4::c5::c6::c7::c8::c9::c10::c11::c12::c13::c14::c15::c16::c17::c18::c19::c20::c21::c22::c23::c24::c25::c26::c27::c28::c29::c30::c31::c32::c33::[]).drop 14).take (Tryz.prog.cellsOf 52))=some y2:=hf 2 _ rfl
 rw [show Tryz.prog.cellsOf 52=3 by kernel_rfl] at h2
 simp only [List.drop_zero,List.drop_succ_cons,List.take_succ_cons,List.take_zero,List.cons.injEq,and_true] at h2
 obtain ⟨q2,a2,s2,e2,r2,u2⟩:=open_pkt (D:=y2.1) (Pl:=y2.2) h2 (fun m hm=>hB m (by
  simp only [DataW.weights,Tryz.underlying57]
  exact DataW.weights_mem_each (j:=2) (t:=52) M M m hm))
 simp only [List.cons.injEq,and_true] at e2
 have h3:DataW.trod enc Tryz.prog w0 0 (fun _=>true) true n 55 (((c0::c1::c2::c3::c4::c5::c6::c7::c8::c9::c10::c11::c12::c13::c14::c15::c16::c17::c18::c19::c20::c21::c22::c23::c24::c25::c26::c27::c28::c29::c30::c31::c32::c33::[]).drop 17).take (Tryz.prog.cellsOf 55))=some y3:=hf 3 _ rfl
 rw [show Tryz.prog.cellsOf 55=17 by kernel_rfl] at h3
 simp only [List.drop_zero,List.drop_succ_cons,List.take_succ_cons,List.take_zero,List.cons.injEq,and_true] at h3
 obtain ⟨q3,a3,s3,f3,g3,e3,r3,v3,u3⟩:=open_msg (D:=y3.1) (Pl:=y3.2) h3 (fun m hm=>hB m (by
  simp only [DataW.weights,Tryz.underlying57]
  exact DataW.weights_mem_each (j:=3) (t:=55) M M m hm))
 simp only [cellsM,List.cons.injEq,and_true] at e3
 obtain ⟨rfl,rfl,rfl,rfl,rfl,rfl,rfl,rfl,rfl,rfl,rfl,rfl,rfl⟩:=e1
 obtain ⟨rfl,rfl,rfl⟩:=e2
 obtain ⟨rfl,rfl,rfl,rfl,rfl,rfl,rfl,rfl,rfl,rfl,rfl,rfl,rfl,rfl,rfl,rfl,rfl⟩:=e3
 subst e0
 have hrb:=reachBytes_lt
 exact ⟨⟨n0,q1,d1,q2,q3⟩,⟨a1,s1,a2,s2,a3,s3,f3,g3,rfl,r1,r2,r3,v3,u2⟩,⟨⟨u3⟩,u1⟩⟩
theorem open_lops {fuel:Nat} {v:Value} {d:DataW H} {p:List MemPlace} (h:DataW.trod enc Tryz.prog w0 0 (fun _=>true) true fuel 47 [v]=some (d,p)) (hB:∀ n∈d.weights Tryz.prog 47,n≤reachBytes) :
  ∃ l:List Lop,RdL w0 0 v l∧l.length*336≤reachBytes∧∀ q∈l,LopIn q :=
 open_list (α:=Lop) (B:=336) (fun q=>LopIn q) Tryz.underlying47 (show Tryz.prog.cellsOf 57=_ by kernel_rfl) (by decide) (by kernel_rfl) (fun n x D Pl hx hw=>open_lop hx hw) h hB
theorem open_conf {fuel:Nat} {x:List Value} {D:DataW H} {Pl:List MemPlace} (h:DataW.trod enc Tryz.prog w0 0 (fun _=>true) true fuel 32 x=some (D,Pl)) (hB:∀ m∈D.weights Tryz.prog 32,m≤reachBytes) :
  ∃ (k:Cfg) (am:Option Addr) (cm:Nat) (ar:Option Addr) (cr:Nat) (ax:Option Addr) (cs:Nat),x=cellsC k (.slice am k.mem.length cm) (.slice ar k.rngs.length cr) (.slice ax k.sets.length cs)∧RdL w0 0 (.slice am k.mem.length cm) k.mem∧RdL w0 0 (.slice ar k.rngs.length cr) k.rngs∧RdL w0 0 (.slice ax k.sets.length cs) k.sets∧k.mem.length≤10000000000000∧(∀ r∈k.rngs,Sl.I64 r.epoch)∧∀ s∈k.sets,Sl.I64 s.lo∧Sl.I64 s.hi:=by
 obtain ⟨xs,n,_,hd,hl,hlen,hf⟩:=DataW.trod_struct Tryz.underlying32 h
 have hlen':xs.length=6:=hlen
 clear hlen
 obtain ⟨y0,y1,y2,y3,y4,y5,rfl⟩:∃ y0 y1 y2 y3 y4 y5,xs=[y0,y1,y2,y3,y4,y5]:=by
  match xs,hlen' with
  | [y0,y1,y2,y3,y4,y5],_=>exact ⟨y0,y1,y2,y3,y4,y5,rfl⟩
 simp only [Prod.mk.injEq,List.map_cons,List.map_nil] at hd
 obtain ⟨rfl,_⟩:=hd
 rw [show Tryz.prog.cellsOf 32=6 by kernel_rfl] at hl
 obtain ⟨c0,c1,c2,c3,c4,c5,rfl⟩:∃ c0 c1 c2 c3 c4 c5,x=[c0,c1,c2,c3,c4,c5]:=by
  match x,hl with
  | [c0,c1,c2,c3,c4,c5],_=>exact ⟨c0,c1,c2,c3,c4,c5,rfl⟩
 have h0:DataW.trod enc Tryz.prog w0 0 (fun _=>true) true n 3 (([c0,c1,c2,c3,c4,c5].drop 0).take (Tryz.prog.cellsOf 3))=some y0:=hf 0 _ rfl
 rw [show Tryz.prog.cellsOf 3=1 by kernel_rfl] at h0
 obtain ⟨n0,e0,u0⟩:=open_int1 (D:=y0.1) (Pl:=y0.2) h0
 simp only [List.drop_zero,List.drop_succ_cons,List.take_succ_cons,List.take_zero,List.cons.injEq,and_true] at e0
 have h1:DataW.trod enc Tryz.prog w0 0 (fun _=>true) true n 3 (([c0,c1,c2,c3,c4,c5].drop 1).take (Tryz.prog.cellsOf 3))=some y1:=hf 1 _ rfl
 rw [show Tryz.prog.cellsOf 3=1 by kernel_rfl] at h1
 obtain ⟨n1,e1,u1⟩:=open_int1 (D:=y1.1) (Pl:=y1.2) h1
 simp only [List.drop_zero,List.drop_succ_cons,List.take_succ_cons,List.take_zero,List.cons.injEq,and_true] at e1
 have h2:DataW.trod enc Tryz.prog w0 0 (fun _=>true) true n 3 (([c0,c1,c2,c3,c4,c5].drop 2).take (Tryz.prog.cellsOf 3))=some y2:=hf 2 _ rfl
 rw [show Tryz.prog.cellsOf 3=1 by kernel_rfl] at h2
 obtain ⟨n2,e2,u2⟩:=open_int1 (D:=y2.1) (Pl:=y2.2) h2
 simp only [List.drop_zero,List.drop_succ_cons,List.take_succ_cons,List.take_zero,List.cons.injEq,and_true] at e2
 have h3:DataW.trod enc Tryz.prog w0 0 (fun _=>true) true n 28 (([c0,c1,c2,c3,c4,c5].drop 3).take (Tryz.prog.cellsOf 28))=some y3:=hf 3 _ rfl
 rw [show Tryz.prog.cellsOf 28=1 by kernel_rfl] at h3
 obtain ⟨l3,r3,z3⟩:=open_lis (d:=y3.1) (p:=y3.2) h3 (fun m hm=>hB m (by
  simp only [DataW.weights,Tryz.underlying32]
  exact DataW.weights_mem_each (j:=3) (t:=28) M M m hm))
 have h4:DataW.trod enc Tryz.prog w0 0 (fun _=>true) true n 29 (([c0,c1,c2,c3,c4,c5].drop 4).take (Tryz.prog.cellsOf 29))=some y4:=hf 4 _ rfl
 rw [show Tryz.prog.cellsOf 29=1 by kernel_rfl] at h4
 obtain ⟨l4,r4,z4,q4⟩:=open_rngs (d:=y4.1) (p:=y4.2) h4 (fun m hm=>hB m (by
  simp only [DataW.weights,Tryz.underlying32]
  exact DataW.weights_mem_each (j:=4) (t:=29) M M m hm))
 have h5:DataW.trod enc Tryz.prog w0 0 (fun _=>true) true n 30 (([c0,c1,c2,c3,c4,c5].drop 5).take (Tryz.prog.cellsOf 30))=some y5:=hf 5 _ rfl
 rw [show Tryz.prog.cellsOf 30=1 by kernel_rfl] at h5
 obtain ⟨l5,r5,z5,q5⟩:=open_spns (d:=y5.1) (p:=y5.2) h5 (fun m hm=>hB m (by
  simp only [DataW.weights,Tryz.underlying32]
  exact DataW.weights_mem_each (j:=5) (t:=30) M M m hm))
 subst e0 e1 e2
 obtain ⟨a3,s3,rfl⟩:=r3.shape
 obtain ⟨a4,s4,rfl⟩:=r4.shape
 obtain ⟨a5,s5,rfl⟩:=r5.shape
 have hrb:=reachBytes_lt
 exact ⟨⟨n0,n1,n2,l3,l4,l5⟩,a3,s3,a4,s4,a5,s5,rfl,r3,r4,r5,by show l3.length≤_; omega,q4,q5⟩
end
end Go.Proofs.YtfahijncpmlhjaaGreat.clIn
namespace Go.Proofs.YtfahijncpmlhjaaGreat
open Go Go.RowKit
namespace Sl
set_option maxHeartbeats 16000000
set_option maxRecDepth 4000
set_option synthInstance.maxHeartbeats 400000
set_option synthInstance.maxSize 100000
attribute [local irreducible] Hold HoldL HoldW
def Did (o:Lop) (c c':Cl) (rs:Rsp):Prop :=
 (o.kind=0∧(c',rs)=callF c o.x o.d)∨(o.kind=1∧(c',rs)=tickF c)∨(o.kind=2∧(c',rs)=takeF c o.pk.src o.pk.dst o.pk.bytes) ∨
 (o.kind=3∧∃ bs,(GoodP o.m∧(bodyF o.m).length≤65536→bs=headF (bodyF o.m)++bodyF o.m)∧(c',rs)=takeF c o.m.src o.m.dst bs)∨(o.kind≠0∧o.kind≠1∧o.kind≠2∧o.kind≠3∧c'=c∧rs=⟨[],ans0,false⟩)
section
variable (w0:World) (X:Hp) (b tb:Nat) (c:Cl) (S:Hp) (n:Nat)
theorem did28_spec (o:Lop) (da pa ea ma:Option Addr) (dc pc ec mc:Nat) (r1:RdL w0 X (.slice da o.d.length dc) o.d) (r2:RdL w0 X (.slice pa o.pk.bytes.length pc) o.pk.bytes) (r3:RdL w0 X (.slice ea o.m.entries.length ec) o.m.entries) (r4:RdL w0 X (.slice ma o.m.data.length mc) o.m.data) (r5:o.pk.bytes.length≤pc)
  (hsm:SmallLop o) (hx:CalSz o.x) (hS:CliT w0 X b tb c S) (hZ:Sz n c) (hn:n+500≤1000000) (hA:AtRest c) :
  Spec Tryz.prog w0 17 [pB b,.agg (cells28 o (.slice da o.d.length dc) (.slice pa o.pk.bytes.length pc) (.slice ea o.m.entries.length ec) (.slice ma o.m.data.length mc)).toArray] (X+S)
   (fun r h'=>∃ tb' c' rs,Did o c c' rs∧AtRest c'∧Sz (n+100) c'∧Fin w0 X b tb' c' rs r h'):=by
 have hF:=hA.2.1
 have hAny:=hA.2.2.2
 have hd:=hsm.d
 have hp:=hsm.pk
 have hm:=hsm.m
 refine zN Tryz.func17 M Tryz.ntmps17 Tryz.results17 M fun fr=>?_
 repeat (first|refine zF ?_|refine zR ?_|refine zB ?_|refine zE ?_|refine zK M M M ?_|refine zY M M M M M ?_|refine L_ld M M M M M ?_|refine L_box M (c:=(_::_::_::_::_::_::_::_::_::_::_::_::_::_::_::_::_::_::_::_::_::_::_::_::_::_::_::_::_::_::_::_::_::_::[])) M M M (fun _=>?_)|refine L_alloc (c:=[_,_,_]) M M M (fun _=>?_))
 rename_i b3 b5
 refine yF M M (pv_eql M M) (fun k0=>?_) (fun k0=>?_)
 ·repeat (first|refine zF ?_|refine zB ?_|refine zE ?_|refine zK M M M ?_|refine zY M M M M M ?_|refine L_ld M M M M M ?_|refine zJ M ?_|refine L_ldA M (vs:=[_,_,_,_,_,_,_,_,_,_,_,_,_]) M M M M M ?_|refine L_stA M (vs:=[_,_,_,_,_,_,_,_,_,_,_,_,_]) M M M M (c':=[_,_,_,_,_,_,_,_,_,_,_,_,_]) M M ?_|refine L_alloc (c:=[_,_,_,_,_,_,_,_,_,_,_,_,_]) M M M (fun _=>?_))
  rename_i b7
  refine zX M M (zQ M M M) (copyB_spec w0 X _ o.d r1 (by omega)) ?_
  rintro vd _ ⟨D,hD,rfl⟩
  have hDr:=hD.rdh
  obtain ⟨a8,c8,rfl⟩:=hD.shape
  repeat (first|refine zF ?_|refine zB ?_|refine zE ?_|refine zK M M M ?_|refine zY M M M M M ?_|refine L_st M M M (c':=[_,_,_,_,_,_,_,_,_,_,_,_,_]) M M M M ?_|refine L_ldA M (vs:=[_,_,_,_,_,_,_,_,_,_,_,_,_]) M M M M M ?_)
  refine zX M M (zQ M M M) (calling_spec w0 X b tb c S n o.x D o.d a8 c8 hDr (by omega) hS hZ (by omega) hA hx) ?_
  rintro _ _ ⟨tb',_,⟨E,S',ho,⟨vo,ad,cd,rfl,hout,hans⟩,hS',rfl⟩,rfl⟩
  repeat (first|refine zF ?_|refine zB ?_|refine zE ?_|refine zK M M M ?_|refine zY M M M M M ?_|refine L_ld M M M M M ?_|refine L_stA M (vs:=[_,_,_]) M M M M (c':=[_,_,_]) M M ?_|refine L_alloc (c:=[_,_,_]) M M M (fun _=>?_))
  rename_i b9
  refine zX M M (zQ M M M) (spoilB_spec w0 0 _ o.d D hD (by omega)) ?_
  rintro vs hs -
  repeat (first|refine zF ?_|refine zE ?_)
  refine yB [4] [0,1,2,3,4,5] (by kernel_rfl) M (by kernel_rfl) (by kernel_rfl) ?_
  repeat (first|refine yH M M M M M ?_|refine W_load M M M M (yE M) (zL (vs:=[_,_,_]) M M M) ?_)
  refine W_eff M M M M (ev_storeA (vs:=[_,_,_]) M M M M (c:=[_,_,_]) (Nat.le_of_ble_eq_true M) (c':=[_,_,_]) M) (Kept.all _) ?_
  rintro _ _ rfl
  refine ⟨zka,?_⟩
  refine zaD ?_
  repeat (refine zM ?_)
  have hc:=call_ok hA o.x o.d
  exact ⟨[_,_,_],X+E+(S'+ho),_,⟨rfl,⟨_,rfl,zL (vs:=[_,_,_]) M M M⟩,rfl,trivial⟩,⟨tb',_,_,(.inl ⟨k0,rfl⟩),hc.1,hZ.call (by omega) hF hx o.d,E,S',ho,⟨vo,ad,cd,rfl,hout,hans⟩,hS',rfl⟩,yJ.out⟩
 refine zaA ?_
 refine yF M M (pv_eql M M) (fun k1=>?_) (fun k1=>?_)
 ·refine zaY ?_
  refine zX M M (zQ M M M) (ticking_spec w0 X b tb c S n hS hZ (by omega) hF hAny) ?_
  rintro _ _ ⟨E,S',ho,⟨vo,ad,cd,rfl,hout,hans⟩,hS',rfl⟩
  refine zcM ?_
  exact ⟨[_,_,_],X+E+(S'+ho),_,⟨rfl,⟨_,rfl,zL (vs:=[_,_,_]) M M M⟩,rfl,trivial⟩,⟨tb,_,_,.inr (.inl ⟨k1,rfl⟩),(tick_ok hA).1,hZ.tick (by omega) hF hAny,E,S',ho,⟨vo,ad,cd,rfl,hout,hans⟩,hS',rfl⟩,yJ.out⟩
 refine zaA ?_
 refine yF M M (pv_eql M M) (fun k2=>?_) (fun k2=>?_)
 ·repeat (first|refine zF ?_|refine zB ?_|refine zE ?_|refine zK M M M ?_|refine zY M M M M M ?_|refine zJ M ?_|refine L_ldA M (vs:=[_,_,_]) M M M M M ?_)
  refine zX M M (zQ M M M) (taking_spec w0 X b tb c S n hS hZ hn hF hAny o.pk.src o.pk.dst o.pk.bytes pa pc r2 (by omega) r5) ?_
  rintro _ _ ⟨E,S',ho,⟨vo,ad,cd,rfl,hout,hans⟩,hS',rfl⟩
  refine zcM ?_
  exact ⟨[_,_,_],X+E+(S'+ho),_,⟨rfl,⟨_,rfl,zL (vs:=[_,_,_]) M M M⟩,rfl,trivial⟩,⟨tb,_,_,.inr (.inr (.inl ⟨k2,rfl⟩)),(take_ok hA _ _ _).1,hZ.take (by omega) hF _ _ _ (take_hm _ (by omega)),E,S',ho,⟨vo,ad,cd,rfl,hout,hans⟩,hS',rfl⟩,yJ.out⟩
 refine zaA ?_
 refine yF M M (pv_eql M M) (fun k3=>?_) (fun k3=>?_)
 ·repeat (first|refine zF ?_|refine zB ?_|refine zE ?_|refine zK M M M ?_|refine zY M M M M M ?_|refine zJ M ?_|refine L_ldA M (vs:=[_,_,_,_,_,_,_,_,_,_,_,_,_,_,_,_,_]) M M M M M ?_)
  obtain ⟨m1,m2,m3⟩:=bigM_small hm
  refine zX M M (zQ M M M) (packet_spec w0 X o.m ea ma ec mc r3 r4 m1 m2 m3) ?_
  rintro _ _ ⟨bs,ab,cb,E0,rfl,hb,hbl,hbc,hgood,rfl⟩
  skip
  refine zX M M (zQ M M M) (taking_spec w0 (X+E0) b tb c S n (hS.mono M) hZ hn hF hAny o.m.src o.m.dst bs ab cb (hb.mono (R:=X) (by ac_rfl)) (by omega) hbc) ?_
  rintro _ _ ⟨E,S',ho,⟨vo,ad,cd,rfl,hout,hans⟩,hS',rfl⟩
  refine zcM ?_
  exact ⟨[_,_,_],X+E0+E+(S'+ho),_,⟨rfl,⟨_,rfl,zL (vs:=[_,_,_]) M M M⟩,rfl,trivial⟩,⟨tb,_,_,.inr (.inr (.inr (.inl ⟨k3,bs,hgood,rfl⟩))),(take_ok hA _ _ _).1,hZ.take (by omega) hF _ _ _ (take_hm _ (by omega)),Fin.trans ⟨E,S',ho,⟨vo,ad,cd,rfl,hout,hans⟩,hS',rfl⟩⟩,yJ.out⟩
 ·repeat (first|refine zF ?_|refine zB ?_|refine zE ?_|refine zK M M M ?_|refine zP ?_|refine zM ?_|refine zI M ?_|refine L_build (vs:=[]) (cells:=[_,_,_]) M M M M ?_|refine L_stA M (vs:=[_,_,_]) M M M M (c':=[_,_,_]) M M ?_)
  exact ⟨[_,_,_],X+S,_,⟨rfl,⟨_,rfl,zL (vs:=[_,_,_]) M M M⟩,rfl,trivial⟩,⟨tb,c,⟨[],ans0,false⟩,.inr (.inr (.inr (.inr ⟨k0,k1,k2,k3,rfl,rfl⟩))),hA,hZ.mono (by omega),0,S,0,⟨_,none,0,rfl,OwL.nil _ _,RdL.nil _ _ _⟩,by rw [yA]; exact hS,by rw [yA,yA]⟩,yJ.out⟩
end
end Sl
end Go.Proofs.YtfahijncpmlhjaaGreat
