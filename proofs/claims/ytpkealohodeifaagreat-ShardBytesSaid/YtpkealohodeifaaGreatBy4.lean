/-
  What shardBytes.proved hangs on, part 4 of 8: ShT, ShU, Shelf, LkF, LkG, LkL, LkS, ShTk, ShV, ShW, ShX, ShY, ShZ, ShPa, ShSo, LkOf, ShMo, ShIa, Dfr, ShPc.
-/
import Derived.Test.YtpkealohodeifaaGreatBy3
import Derived.Shelf.Sort.Plain
import Derived.Ground.Names2Prog
import Derived.Shelf.Slices.CompactI
import Derived.Shelf.Slices.In.SortNone
import Derived.Test.YtpkealohodeifaaGreatProg
import Derived.Test.YtpkealohodeifaaGreatBy2
import Derived.Test.YtpkealohodeifaaGreatBy1
import Derived.Defers
set_option linter.unusedVariables false
set_option linter.unusedSimpArgs false
namespace Go.Proofs.YtpkealohodeifaaGreat
open Go Go.RowKit
namespace Sl
set_option maxHeartbeats 8000000
set_option maxRecDepth 4000
set_option synthInstance.maxHeartbeats 400000
set_option synthInstance.maxSize 100000
attribute [local irreducible] Hold HoldL HoldW HoldV
theorem manyS_odd {α:Type} {f:St2→α × St2} (hf:∀ s,(f s).2.2=s.2):∀ k s,(manyS f k s).2.2=s.2
 | 0,_=>rfl
 | k+1,s=>by show (f (manyS f k s).2).2.2=s.2; rw [hf,manyS_odd hf k s]
theorem listV_odd {α:Type} {f:St2→α × St2} (hf:∀ s,(f s).2.2=s.2) (least:Nat) (s:St2):(listV f least s).2.2=s.2:=by
 unfold listV
 split
 ·rw [manyS_odd hf]
 ·rfl
theorem getBlocksP_spec (w0:World) (D:Hp) (b:Nat) (s:St2) (h:Hp) (hr:RdrAt w0 D b s.1 h) (hl:s.1.left.length≤1000000000000) :
  Spec Tryz.prog w0 48 [.pointer (some ⟨b,0,none⟩)] (D+h) (fun r h'=>∃ E h2 h3,Plain E∧OwL w0 (D+E) (listV oneBlk 16 s).1 r h3∧RdrAt w0 D b (listV oneBlk 16 s).2.1 h2∧D+E+h2+h3=h'):=by
 refine zN Tryz.func48 G Tryz.ntmps48 Tryz.results48 G fun fr=>?_
 repeat (first|refine zF ?_|refine zB ?_|refine zE ?_|refine zK G G G ?_|refine L_ld G G G G G ?_|refine L_box G (c:=[_]) G G G (fun _=>?_)|refine L_clo G G G ?_)
 rename_i bc
 refine zY G G (zQ G G G) (listBlk_spec w0 D b (fun _=>boxR bc b) 142 [.pointer (some ⟨bc,0,none⟩)] oneBlk 16 ⟨by omega,by omega⟩ s h hr hl oneBlk_len (fun s h hl hr=>getBlk1_spec w0 D b bc s h hl hr)) ?_
 rintro vw _ ⟨E,h2,h3,hpl,ho,hr2,rfl⟩
 repeat (first|refine zE ?_|refine zK G G G ?_|refine zM ?_)
 exact ⟨[_],D+E+h2+h3,_,⟨rfl,trivial⟩,⟨E,h2,h3,hpl,ho,hr2,rfl⟩,yK.out⟩
theorem getKeptP_spec (w0:World) (D:Hp) (b:Nat) (s:St2) (h:Hp) (hr:RdrAt w0 D b s.1 h) (hl:s.1.left.length≤1000000000000) :
  Spec Tryz.prog w0 49 [.pointer (some ⟨b,0,none⟩)] (D+h) (fun r h'=>∃ E h2 h3,Plain E∧OwL w0 (D+E) (listV oneKpt 24 s).1 r h3∧RdrAt w0 D b (listV oneKpt 24 s).2.1 h2∧D+E+h2+h3=h'):=by
 refine zN Tryz.func49 G Tryz.ntmps49 Tryz.results49 G fun fr=>?_
 repeat (first|refine zF ?_|refine zB ?_|refine zE ?_|refine zK G G G ?_|refine L_ld G G G G G ?_|refine L_box G (c:=[_]) G G G (fun _=>?_)|refine L_clo G G G ?_)
 rename_i bc
 refine zY G G (zQ G G G) (listKpt_spec w0 D b (fun _=>boxR bc b) 144 [.pointer (some ⟨bc,0,none⟩)] oneKpt 24 ⟨by omega,by omega⟩ s h hr hl oneKpt_len (fun s h hl hr=>getKpt1_spec w0 D b bc s h hl hr)) ?_
 rintro vw _ ⟨E,h2,h3,hpl,ho,hr2,rfl⟩
 repeat (first|refine zE ?_|refine zK G G G ?_|refine zM ?_)
 exact ⟨[_],D+E+h2+h3,_,⟨rfl,trivial⟩,⟨E,h2,h3,hpl,ho,hr2,rfl⟩,yK.out⟩
theorem Spec.post {P:Program} {w0:World} {f:FuncId} {args:List Value} {X:Hp} {Q Q':Value→Hp→Prop} (h:Spec P w0 f args X Q) (hq:∀ r h',Q r h'→Q' r h'):Spec P w0 f args X Q':=by
 intro w fr hw
 refine (h w fr hw).mono ?_
 rintro e w' ⟨v,h',he,hq',hst⟩
 exact ⟨v,h',he,hq _ _ hq',hst⟩
theorem getBlocks_spec (w0:World) (D:Hp) (b:Nat) (s:St2) (h:Hp) (hr:RdrAt w0 D b s.1 h) (hl:s.1.left.length≤1000000000000) :
  Spec Tryz.prog w0 48 [.pointer (some ⟨b,0,none⟩)] (D+h) (fun r h'=>∃ E h2 h3,OwL w0 (D+E) (listV oneBlk 16 s).1 r h3∧RdrAt w0 D b (listV oneBlk 16 s).2.1 h2∧D+E+h2+h3=h') :=
 (getBlocksP_spec w0 D b s h hr hl).post fun r h' ⟨E,h2,h3,_,h4⟩=>⟨E,h2,h3,h4⟩
theorem getKept_spec (w0:World) (D:Hp) (b:Nat) (s:St2) (h:Hp) (hr:RdrAt w0 D b s.1 h) (hl:s.1.left.length≤1000000000000) :
  Spec Tryz.prog w0 49 [.pointer (some ⟨b,0,none⟩)] (D+h) (fun r h'=>∃ E h2 h3,OwL w0 (D+E) (listV oneKpt 24 s).1 r h3∧RdrAt w0 D b (listV oneKpt 24 s).2.1 h2∧D+E+h2+h3=h') :=
 (getKeptP_spec w0 D b s h hr hl).post fun r h' ⟨E,h2,h3,_,h4⟩=>⟨E,h2,h3,h4⟩
def OwShd (w0:World) (X:Hp) (s:Shd) (e:List Value) (h:Hp):Prop:=∃ a1 c1 a2 c2 a3 c3 a4 c4 a5 c5 a6 c6 a7 c7 h1 h2 h3 h4 h5 h6 h7,
 e=cellsS s (.slice a1 s.blocks.length c1) (.slice a2 s.kept.length c2) (.slice a3 s.locks.length c3) (.slice a4 s.preps.length c4) (.slice a5 s.dead.length c5) (.slice a6 s.outs.length c6) (.slice a7 s.sess.length c7) ∧
 OwL w0 X s.blocks (.slice a1 s.blocks.length c1) h1∧OwL w0 X s.kept (.slice a2 s.kept.length c2) h2∧OwL w0 X s.locks (.slice a3 s.locks.length c3) h3∧OwL w0 X s.preps (.slice a4 s.preps.length c4) h4∧OwL w0 X s.dead (.slice a5 s.dead.length c5) h5∧OwL w0 X s.outs (.slice a6 s.outs.length c6) h6∧OwL w0 X s.sess (.slice a7 s.sess.length c7) h7 ∧
 h=h1+h2+h3+h4+h5+h6+h7
theorem OwShd.rd {w0:World} {X h:Hp} {s:Shd} {e:List Value} (H:OwShd w0 X s e h):RdShd w0 (X+h) s e:=by
 obtain ⟨a1,c1,a2,c2,a3,c3,a4,c4,a5,c5,a6,c6,a7,c7,h1,h2,h3,h4,h5,h6,h7,rfl,o1,o2,o3,o4,o5,o6,o7,rfl⟩:=H
 exact ⟨a1,c1,a2,c2,a3,c3,a4,c4,a5,c5,a6,c6,a7,c7,rfl,o1.rd0.mono (R:=h2+h3+h4+h5+h6+h7) (by ac_rfl),o2.rd0.mono (R:=h1+h3+h4+h5+h6+h7) (by ac_rfl),o3.rd0.mono (R:=h1+h2+h4+h5+h6+h7) (by ac_rfl),o4.rd0.mono (R:=h1+h2+h3+h5+h6+h7) (by ac_rfl),
  o5.rd0.mono (R:=h1+h2+h3+h4+h6+h7) (by ac_rfl),o6.rd0.mono (R:=h1+h2+h3+h4+h5+h7) (by ac_rfl),o7.rd0.mono (R:=h1+h2+h3+h4+h5+h6) (by ac_rfl)⟩
def Shd.zero :Shd:=⟨0,0,0,[],[],[],[],[],[],[]⟩
def g3 (bs:List Bt):RS:=intS (intS (intS ⟨bs,false⟩))
def gB (bs:List Bt):List Blk × St2:=listV oneBlk 16 (g3 bs,false)
def gK (bs:List Bt):List Kpt × St2:=listV oneKpt 24 ((gB bs).2.1,false)
def gL (bs:List Bt):List Lk × St2:=listV oneLk 32 ((gK bs).2.1,false)
def gP (bs:List Bt):List Prp × St2:=listV onePrp 56 (gL bs).2
def gO (bs:List Bt):List Outp × St2:=listV oneOut 32 (intsS (gP bs).2.1,(gP bs).2.2)
def gX (bs:List Bt):List Ses × St2:=listV oneSes 32 (gO bs).2
def getS (bs:List Bt):Shd:=⟨intV ⟨bs,false⟩,intV (intS ⟨bs,false⟩),intV (intS (intS ⟨bs,false⟩)),(gB bs).1,(gK bs).1,(gL bs).1,(gP bs).1,intsV (gP bs).2.1,(gO bs).1,(gX bs).1⟩
def getF (bs:List Bt):Shd × Int:=if (gX bs).2.2=true∨endV (gX bs).2.1≠0 then (Shd.zero,4) else (getS bs,0)
theorem read02P_spec (w0:World) (X:Hp) (v:Value) (b:List Bt) (hv:RdL w0 X v b) (hl:b.length≤1000000000000) :
  Spec Tryz.prog w0 46 [v] X (fun r h'=>∃ p D h,r=.pointer (some ⟨p,0,none⟩)∧Plain D∧RdrAt w0 D p ⟨b,false⟩ h∧X+(D+h)=h'):=by
 have hcl:=cloneB_spec w0 X v b hv hl
 obtain ⟨a,c,rfl⟩:=hv.shape
 refine zN Tryz.func46 G Tryz.ntmps46 Tryz.results46 G fun fr=>?_
 repeat (first|refine zF ?_|refine zB ?_|refine zE ?_|refine zK G G G ?_)
 refine zY G G (zQ G G G) hcl ?_
 rintro v1 _ ⟨h1,ho,rfl⟩
 have hp1:=ho.plain
 obtain ⟨es,hrow,hall⟩:=id ho
 have hlen:=hall.length
 obtain ⟨a2,c2,rfl,hc2⟩:∃ a2 c2,v1=.slice a2 b.length c2∧b.length≤c2:=by
  obtain ⟨_,⟨ad,rfl,e,_⟩|⟨b',cap,spare,rfl,_,h4,_,_⟩⟩:=hrow
  ·refine ⟨ad,0,?_,?_⟩<;>(rw [e] at hlen; simp at hlen)
   ·rw [← hlen]
   ·omega
  ·exact ⟨_,cap,by rw [hlen],by omega⟩
 repeat (first|refine zE ?_|refine zK G G G ?_|refine zM ?_|refine L_build (vs:=[_]) (cells:=[_,_]) G G G G ?_|refine L_box G (c:=[_,_]) G G G (fun _=>?_))
 rename_i p
 exact ⟨[_],X+(h1+pt p (.cells [.slice a2 b.length c2,.bool false].toArray 186 (0,0))),_,⟨rfl,trivial⟩,⟨p,h1,_,rfl,hp1,⟨a2,c2,rfl,ho.plainB.rd (X:=0) (R:=0),hc2⟩,rfl⟩,yK.out⟩
theorem get22P_spec (w0:World) (X:Hp) (v:Value) (bs:List Bt) (hv:RdL w0 X v bs) (hl:bs.length≤1000000000000) :
  Spec Tryz.prog w0 12 [v] X (fun r h'=>∃ e D h,r=.tuple #[.agg e.toArray,.int .i64 (getF bs).2]∧Plain D∧OwShd w0 D (getF bs).1 e h∧X+(D+h)=h'):=by
 have l1:=intS_len ⟨bs,false⟩
 have l2:=intS_len (intS ⟨bs,false⟩)
 have l3:(g3 bs).left.length≤_:=intS_len (intS (intS ⟨bs,false⟩))
 have l4:(gB bs).2.1.left.length≤(g3 bs).left.length:=listV_len oneBlk_len 16 _
 have l5:(gK bs).2.1.left.length≤(gB bs).2.1.left.length:=listV_len oneKpt_len 24 _
 have l6:(gL bs).2.1.left.length≤(gK bs).2.1.left.length:=listV_len oneLk_len 32 _
 have l7:(gP bs).2.1.left.length≤(gL bs).2.1.left.length:=listV_len onePrp_len 56 _
 have l8:=intsS_len (gP bs).2.1
 have l9:(gO bs).2.1.left.length≤(intsS (gP bs).2.1).left.length:=listV_len oneOut_len 32 _
 have l0:(⟨bs,false⟩:RS).left.length≤1000000000000:=hl
 have oP:(gP bs).2.2=(gL bs).2.2:=listV_odd (f:=onePrp) (fun s=>by show (listV oneWr 16 _).2.2=_; rw [listV_odd (fun s=>rfl)]) 56 _
 have oO:(gO bs).2.2=(gL bs).2.2:=by rw [← oP]; exact listV_odd (f:=oneOut) (fun s=>rfl) 32 _
 have oX:(gX bs).2.2=(gL bs).2.2:=by rw [← oO]; exact listV_odd (f:=oneSes) (fun s=>rfl) 32 _
 have hread:=read02P_spec w0 X v bs hv hl
 obtain ⟨a,c,rfl⟩:=hv.shape
 refine zN Tryz.func12 G Tryz.ntmps12 Tryz.results12 G fun fr=>?_
 repeat (first|refine zF ?_|refine zB ?_|refine zE ?_|refine zK G G G ?_|refine L_alloc (c:=[_,_,_,_,_,_,_,_,_,_]) G G G (fun _=>?_))
 refine zY G G (zQ G G G) hread ?_
 rintro _ _ ⟨b,D,h0,rfl,hpD,hr0,rfl⟩
 repeat (first|refine zF ?_|refine zB ?_|refine zE ?_|refine L_st G G G (c':=[_]) G G G G ?_|refine L_alloc (c:=[_]) G G G (fun _=>?_))
 rename_i b2 b4 b5
 refine hold_drawV [1,3,5,7,8] [0,2,4,1,3,5,6,7,8] 7 6 [.int .i64 0,.int .i64 0,.int .i64 0,.slice none 0 0,.slice none 0 0,.slice none 0 0,.slice none 0 0,.slice none 0 0,.slice none 0 0,.slice none 0 0] 33 (by kernel_rfl) G (by kernel_rfl) (by kernel_rfl) (by kernel_rfl) ?_
 repeat (refine V_load G G (fun _=>rfl) (zG G (zS G)) G G G G ?_)
 refine V_call G G G G G (zQ G G G) (fun _=>zQ G G G) (getInt_spec w0 D b ⟨bs,false⟩ h0 hr0 hl) (Kept.all _) G G G G ?_
 rintro _ _ ⟨h1,rfl,hr1,rfl⟩
 refine ⟨(by repeat (first|exact trivial|exact zG G (zS G)|exact zL G G G|exact zX G (by assumption) G|exact zH G (by assumption) G|exact zH G (by assumption) (by assumption)|refine ⟨?_,?_⟩)),?_⟩
 refine V_call G G G G G (zQ G G G) (fun _=>zQ G G G) (getInt_spec w0 D b (intS ⟨bs,false⟩) h1 hr1 (by omega)) (Kept.all _) G G G G ?_
 rintro _ _ ⟨h2,rfl,hr2,rfl⟩
 refine ⟨(by repeat (first|exact trivial|exact zG G (zS G)|exact zL G G G|exact zX G (by assumption) G|exact zH G (by assumption) G|exact zH G (by assumption) (by assumption)|refine ⟨?_,?_⟩)),?_⟩
 refine V_call G G G G G (zQ G G G) (fun _=>zQ G G G) (getInt_spec w0 D b (intS (intS ⟨bs,false⟩)) h2 hr2 (by omega)) (Kept.all _) G G G G ?_
 rintro _ _ ⟨h3,rfl,hr3,rfl⟩
 refine ⟨(by repeat (first|exact trivial|exact zG G (zS G)|exact zL G G G|exact zX G (by assumption) G|exact zH G (by assumption) G|exact zH G (by assumption) (by assumption)|refine ⟨?_,?_⟩)),?_⟩
 repeat (refine V_pure G (pv_build (vs:=[_,_,_]) (cells:=[_,_,_,_,_,_,_,_,_,_]) G G) (fun _=>pv_build (vs:=[_,_,_]) (cells:=[_,_,_,_,_,_,_,_,_,_]) G G) G G G G ?_)
 refine V_now G G G G (fun b6=>?_)
 refine W_eff G G G G (ev_storeA (vs:=[_,_,_,_,_,_,_,_,_,_]) G G G G (c:=[_,_,_,_,_,_,_,_,_,_]) (Nat.le_of_ble_eq_true G) (c':=[_,_,_,_,_,_,_,_,_,_]) G) (Kept.all _) ?_
 rintro _ _ rfl
 refine ⟨(by repeat (first|exact trivial|exact zG G (zS G)|exact zL G G G|exact zX G (by assumption) G|exact zH G (by assumption) G|exact zH G (by assumption) (by assumption)|refine ⟨?_,?_⟩)),?_⟩
 repeat (refine yJ ?_)
 repeat (refine zF ?_)
 refine yC [1,3,5,7] [0,2,1,4,3,5,6,7] (by kernel_rfl) G (by kernel_rfl) (by kernel_rfl) ?_
 repeat (refine W_load G G G G (yF G) (zG G (zS G)) ?_)
 refine W_call G G G G (zQ G G G) (getBlocksP_spec w0 D b (g3 bs,false) h3 hr3 (by show (g3 bs).left.length≤_; omega)) (Kept.all _) ?_
 rintro vb _ ⟨E1,h4,hb,hpl1,ob,hr4,rfl⟩
 obtain ⟨ab,cb,rfl⟩:=ob.shape
 refine ⟨(by repeat (first|exact trivial|exact zG G (zS G)|exact zL G G G|exact zX G (by assumption) G|exact zH G (by assumption) G|exact zH G (by assumption) (by assumption)|refine ⟨?_,?_⟩)),?_⟩
 repeat (refine yE G G G G (yA G G G) ?_)
 refine W_call G G G G (zQ G G G) (getKeptP_spec w0 D b ((gB bs).2.1,false) h4 hr4 (by show (gB bs).2.1.left.length≤_; omega)) (Kept.all _) ?_
 rintro vk _ ⟨E2,h5,hk,hpl2,ok,hr5,rfl⟩
 obtain ⟨ak,ck,rfl⟩:=ok.shape
 refine ⟨(by repeat (first|exact trivial|exact zG G (zS G)|exact zL G G G|exact zX G (by assumption) G|exact zH G (by assumption) G|exact zH G (by assumption) (by assumption)|refine ⟨?_,?_⟩)),?_⟩
 skip
 refine W_eff G G G G (ev_store (c':=[_,_,_,_,_,_,_,_,_,_]) G G G G G G) (Kept.all _) ?_
 rintro _ _ rfl
 refine ⟨(by repeat (first|exact trivial|exact zG G (zS G)|exact zL G G G|exact zX G (by assumption) G|exact zH G (by assumption) G|exact zH G (by assumption) (by assumption)|refine ⟨?_,?_⟩)),?_⟩
 repeat (refine yE G G G G (yA G G G) ?_)
 refine W_eff G G G G (ev_store (c':=[_,_,_,_,_,_,_,_,_,_]) G G G G G G) (Kept.all _) ?_
 rintro _ _ rfl
 refine ⟨(by repeat (first|exact trivial|exact zG G (zS G)|exact zL G G G|exact zX G (by assumption) G|exact zH G (by assumption) G|exact zH G (by assumption) (by assumption)|refine ⟨?_,?_⟩)),?_⟩
 repeat (refine yJ ?_)
 repeat (first|refine zF ?_|refine zB ?_|refine L_ld G G G G G ?_|refine L_clo G G G ?_)
 refine zY G G (zQ G G G) (listLk_spec w0 D b (fun od=>boxR b4 b+pt b5 (.cells [.bool od].toArray 4 (0,0))) 51 [.pointer (some ⟨b4,0,none⟩),.pointer (some ⟨b5,0,none⟩)] oneLk 32 ⟨by omega,by omega⟩ ((gK bs).2.1,false) h5 hr5 (by show (gK bs).2.1.left.length≤_; omega) oneLk_len (fun s h hl hr=>getLk1_spec w0 D b b4 b5 s h hl hr)) ?_
 rintro vl _ ⟨E3,h6,hlk,hpl3,ol,hr6,rfl⟩
 obtain ⟨al,cl,rfl⟩:=ol.shape
 repeat (first|refine zF ?_|refine zB ?_|refine zE ?_|refine zZ G G G G G ?_|refine L_ld G G G G G ?_|refine L_st G G G (c':=[_,_,_,_,_,_,_,_,_,_]) G G G G ?_|refine L_clo G G G ?_)
 refine zY G G (zQ G G G) (listPrp_spec w0 D b (fun _=>boxR b4 b) 53 [.pointer (some ⟨b4,0,none⟩)] onePrp 56 ⟨by omega,by omega⟩ (gL bs).2 h6 hr6 (by omega) onePrp_len (fun s h hl hr=>getPrp1_spec w0 D b b4 s h hl hr)) ?_
 rintro vp _ ⟨E4,h7,hp,hpl4,op,hr7,rfl⟩
 obtain ⟨ap,cp,rfl⟩:=op.shape
 repeat (first|refine zF ?_|refine zB ?_|refine zE ?_|refine zZ G G G G G ?_|refine L_ld G G G G G ?_|refine L_st G G G (c':=[_,_,_,_,_,_,_,_,_,_]) G G G G ?_)
 refine zY G G (zQ G G G) (getInts_spec w0 D b (gP bs).2.1 h7 hr7 (by omega)) ?_
 rintro _ _ ⟨ad,cd,h8,hd,rfl,od,hr8,rfl⟩
 repeat (first|refine zF ?_|refine zB ?_|refine zE ?_|refine zZ G G G G G ?_|refine L_ld G G G G G ?_|refine L_st G G G (c':=[_,_,_,_,_,_,_,_,_,_]) G G G G ?_|refine L_clo G G G ?_)
 refine zY G G (zQ G G G) (listOut_spec w0 D b (fun _=>boxR b4 b) 59 [.pointer (some ⟨b4,0,none⟩)] oneOut 32 ⟨by omega,by omega⟩ (intsS (gP bs).2.1,(gP bs).2.2) h8 hr8 (by show (intsS (gP bs).2.1).left.length≤_; omega) oneOut_len (fun s h hl hr=>getOut1_spec w0 D b b4 s h hl hr)) ?_
 rintro vo _ ⟨E5,h9,hou,hpl5,oo,hr9,rfl⟩
 obtain ⟨ao,co,rfl⟩:=oo.shape
 repeat (first|refine zF ?_|refine zB ?_|refine zE ?_|refine zZ G G G G G ?_|refine L_ld G G G G G ?_|refine L_st G G G (c':=[_,_,_,_,_,_,_,_,_,_]) G G G G ?_|refine L_clo G G G ?_)
 refine zY G G (zQ G G G) (listSes_spec w0 D b (fun _=>boxR b4 b) 61 [.pointer (some ⟨b4,0,none⟩)] oneSes 32 ⟨by omega,by omega⟩ (gO bs).2 h9 hr9 (by omega) oneSes_len (fun s h hl hr=>getSes1_spec w0 D b b4 s h hl hr)) ?_
 rintro vx _ ⟨E6,h10,hx,hpl6,ox,hr10,rfl⟩
 obtain ⟨ax,cx,rfl⟩:=ox.shape
 repeat (first|refine zF ?_|refine zB ?_|refine zE ?_|refine zK G G G ?_|refine zZ G G G G G ?_|refine L_ld G G G G G ?_|refine L_st G G G (c':=[_,_,_,_,_,_,_,_,_,_]) G G G G ?_)
 have bad:((gX bs).2.2=true∨endV (gX bs).2.1≠0)→∀ {g:Env} {L R:Hp},look g 2=some (.pointer (some ⟨b2,0,none⟩))→look g 3=some (.int .i64 4)→Loads Tryz.prog w0 L 33 ⟨b2,0,none⟩ (.agg (cellsS Shd.zero (.slice none 0 0) (.slice none 0 0) (.slice none 0 0) (.slice none 0 0) (.slice none 0 0) (.slice none 0 0) (.slice none 0 0)).toArray) →
   L=X+fr+R→∃ vs h R',ResOk Tryz.prog w0 g L [.cell 2 33,.tmp 3] vs∧(∃ e D h2,oneV vs=.tuple #[.agg e.toArray,.int .i64 (getF bs).2]∧Plain D∧OwShd w0 D (getF bs).1 e h2∧X+(D+h2)=h)∧L=h+fr+R':=by
  intro hb g L R h2' h3' hL he
  refine ⟨[_,_],X+(0+(0+0+0+0+0+0+0)),R,⟨⟨_,h2',hL⟩,h3',trivial⟩,⟨_,0,0+0+0+0+0+0+0,by unfold getF; rw [if_pos hb]; rfl,Plain.zero,?_,rfl⟩,by simp only [yB]; exact he⟩
  unfold getF
  rw [if_pos hb]
  exact ⟨none,0,none,0,none,0,none,0,none,0,none,0,none,0,0,0,0,0,0,0,0,rfl,OwL.nil _ _,OwL.nil _ _,OwL.nil _ _,OwL.nil _ _,OwL.nil _ _,OwL.nil _ _,OwL.nil _ _,rfl⟩
 generalize hod:(listV oneLk 32 ((gK bs).2.1,false)).2.2=odv
 have hod':(gX bs).2.2=odv:=by rw [oX]; exact hod
 cases odv
 ·repeat (refine L_ld G G G G G ?_)
  refine zY G G (zQ G G G) (end02_spec w0 D b (gX bs).2.1 h10 hr10) ?_
  rintro _ _ ⟨rfl,rfl⟩
  refine yG G G (pv_neq G G) (fun n1=>?_) (fun n1=>?_)
  ·repeat (first|refine zF ?_|refine zB ?_|refine zE ?_|refine zK G G G ?_|refine zM ?_|refine zJ G ?_|refine L_build (vs:=[]) (cells:=[_,_,_,_,_,_,_,_,_,_]) G G G G ?_|refine L_stA G (vs:=[_,_,_,_,_,_,_,_,_,_]) G G G G (c':=[_,_,_,_,_,_,_,_,_,_]) G G ?_)
   exact bad (.inr n1) G G (zL G G G) yK.out
  ·repeat (first|refine zF ?_|refine zB ?_|refine zE ?_|refine zK G G G ?_|refine zP ?_|refine zM ?_|refine zI G ?_|refine L_ldA G (vs:=[_,_,_,_,_,_,_,_,_,_]) G G G G G ?_|refine L_stA G (vs:=[_,_,_,_,_,_,_,_,_,_]) G G G G (c':=[_,_,_,_,_,_,_,_,_,_]) G G ?_)
   have hf:getF bs=(getS bs,0):=by unfold getF; rw [if_neg (by rw [hod']; simp; simpa using n1)]
   refine ⟨[_,_],X+((D+E1+E2+E3+E4+E5+E6)+(hb+hk+hlk+hp+hd+hou+hx)),_,⟨⟨_,rfl,zL G G G⟩,rfl,trivial⟩,⟨_,D+E1+E2+E3+E4+E5+E6,hb+hk+hlk+hp+hd+hou+hx,by rw [hf]; rfl,(((((hpD.add hpl1).add hpl2).add hpl3).add hpl4).add hpl5).add hpl6,?_,rfl⟩,yK.out⟩
   rw [hf]
   exact ⟨ab,cb,ak,ck,al,cl,ap,cp,ad,cd,ao,co,ax,cx,hb,hk,hlk,hp,hd,hou,hx,rfl,ob.mono (R:=E2+E3+E4+E5+E6) (by ac_rfl),ok.mono (R:=E1+E3+E4+E5+E6) (by ac_rfl),ol.plainL,op.mono (R:=E1+E2+E3+E5+E6) (by ac_rfl),od.plainI,oo.mono (R:=E1+E2+E3+E4+E6) (by ac_rfl),ox.mono (R:=E1+E2+E3+E4+E5) (by ac_rfl),rfl⟩
 ·repeat (first|refine zF ?_|refine zB ?_|refine zE ?_|refine zK G G G ?_|refine L_skip G G ?_|refine zM ?_|refine zJ G ?_|refine L_build (vs:=[]) (cells:=[_,_,_,_,_,_,_,_,_,_]) G G G G ?_|refine L_stA G (vs:=[_,_,_,_,_,_,_,_,_,_]) G G G G (c':=[_,_,_,_,_,_,_,_,_,_]) G G ?_)
  exact bad (.inl hod') G G (zL G G G) yK.out
theorem get22_spec (w0:World) (X:Hp) (v:Value) (bs:List Bt) (hv:RdL w0 X v bs) (hl:bs.length≤1000000000000) :
  Spec Tryz.prog w0 12 [v] X (fun r h'=>∃ e D h,r=.tuple #[.agg e.toArray,.int .i64 (getF bs).2]∧OwShd w0 D (getF bs).1 e h∧X+(D+h)=h') :=
 (get22P_spec w0 X v bs hv hl).post fun r h' ⟨e,D,h,h1,_,h2,h3⟩=>⟨e,D,h,h1,h2,h3⟩
end Sl
end Go.Proofs.YtpkealohodeifaaGreat
namespace Go.Proofs.YtpkealohodeifaaGreat
open Go Go.RowKit
namespace Sl
theorem take8 {n:Int} {r:List Bt}:takeOk ⟨be8 n++r,false⟩ 8=true∧takeV ⟨be8 n++r,false⟩ 8=be8 n∧takeS ⟨be8 n++r,false⟩ 8=⟨r,false⟩:=by
 have h:takeOk ⟨be8 n++r,false⟩ 8=true:=by
  simp [takeOk,be8_length]; omega
 refine ⟨h,?_,?_⟩
 ·unfold takeV; rw [if_pos h]
  show (be8 n++r).take 8=be8 n
  rw [List.take_left' (be8_length n)]
 ·unfold takeS; rw [if_pos h]
  show RS.mk ((be8 n++r).drop 8) false=_
  rw [List.drop_left' (be8_length n)]
theorem dInt {n:Int} (h:I64 n) {r:List Bt}:intV ⟨be8 n++r,false⟩=n∧intS ⟨be8 n++r,false⟩=⟨r,false⟩:=by
 obtain ⟨h1,h2,h3⟩:=take8 (n:=n) (r:=r)
 refine ⟨?_,h3⟩
 unfold intV; rw [if_pos h1,h2]
 exact dec8_be8 n h.1 h.2
theorem dBlob {d:List Bt} (h:d.length≤9000000000000000000) {r:List Bt}:blobV ⟨blob d++r,false⟩=d∧blobS ⟨blob d++r,false⟩=⟨r,false⟩:=by
 have hi:I64 (d.length:Int):=by unfold I64; omega
 obtain ⟨h1,h2⟩:=dInt hi (r:=d++r)
 have e:blob d++r=be8 d.length++(d++r):=by unfold blob; rw [List.append_assoc]
 have hok:takeOk ⟨d++r,false⟩ (d.length:Int)=true:=by simp [takeOk]; omega
 rw [e]
 constructor
 ·unfold blobV; rw [h1,h2]; unfold takeV; rw [if_pos hok]; simp
 ·unfold blobS; rw [h1,h2]; unfold takeS; rw [if_pos hok]; simp
theorem dMany {α:Type} {one:St2→α × St2} {enc:α→List Bt} {odd:Bool} {l:List α} (h:∀ x∈l,∀ r,one (⟨enc x++r,false⟩,odd)=(x,(⟨r,false⟩,odd))) (r:List Bt) :
  ∀ k,k≤l.length→manyS one k (⟨(l.map enc).flatten++r,false⟩,odd)=(l.take k,(⟨((l.drop k).map enc).flatten++r,false⟩,odd))
 | 0,_=>by simp [manyS]
 | k+1,hk=>by
  have ih:=dMany h r k (by omega)
  have hd:l.drop k=l[k]::l.drop (k+1):=List.drop_eq_getElem_cons (by omega)
  unfold manyS
  rw [ih,hd,List.map_cons,List.flatten_cons,List.append_assoc]
  rw [h l[k] (List.getElem_mem _)]
  rw [List.take_succ_eq_append_getElem (by omega)]
theorem dList {α:Type} {one:St2→α × St2} {enc:α→List Bt} {least:Nat} {odd:Bool} {l:List α} (h:∀ x∈l,∀ r,one (⟨enc x++r,false⟩,odd)=(x,(⟨r,false⟩,odd))) (hle:∀ x∈l,least≤(enc x).length) (hl:1≤least) (hll:l.length≤9000000000000000000) (r:List Bt) :
  listV one least (⟨encL' enc l++r,false⟩,odd)=(l,(⟨r,false⟩,odd)):=by
 have hi:I64 (l.length:Int):=by unfold I64; omega
 obtain ⟨h1,h2⟩:=dInt hi (r:=(l.map enc).flatten++r)
 have e:encL' enc l++r=be8 l.length++((l.map enc).flatten++r):=by unfold encL'; rw [List.append_assoc]
 have hlen:l.length*least≤(l.map enc).flatten.length:=by
  clear h1 h2 e hi hll h
  induction l with
  | nil=>simp
  | cons x l ih =>
   have:=ih (fun y hy=>hle y (by simp [hy]))
   have:=hle x (by simp)
   simp only [List.map_cons,List.flatten_cons,List.length_append,List.length_cons,Nat.succ_mul]
   omega
 unfold listV
 rw [e]
 simp only [h1,h2]
 rw [if_pos]
 ·have:=dMany h r l.length (Nat.le_refl _)
  simp only [Int.toNat_natCast]
  rw [this]
  simp
 ·refine ⟨by omega,?_⟩
  have h3:l.length≤((l.map enc).flatten++r).length / least:=by
   rw [Nat.le_div_iff_mul_le (by omega),List.length_append]; omega
  exact_mod_cast h3
theorem many_eq {α:Type} (f:RS→α × RS) (b:Bool):∀ k s,manyS (fun s:St2=>((f s.1).1,((f s.1).2,s.2))) k (s,b)=((many f k s).1,((many f k s).2,b))
 | 0,_=>rfl
 | k+1,s=>by unfold manyS many; rw [many_eq f b k s]
theorem dInts {l:List Int} (h:∀ x∈l,I64 x) (hll:l.length≤9000000000000000000) (r:List Bt):intsV ⟨encInts l++r,false⟩=l∧intsS ⟨encInts l++r,false⟩=⟨r,false⟩:=by
 have hi:I64 (l.length:Int):=by unfold I64; omega
 obtain ⟨h1,h2⟩:=dInt hi (r:=(l.map be8).flatten++r)
 have e:encInts l++r=be8 l.length++((l.map be8).flatten++r):=by unfold encInts; rw [List.append_assoc]
 have hlen:=encInts_length l
 rw [encInts,List.length_append,be8_length] at hlen
 have hok:intsOk ⟨encInts l++r,false⟩=true:=by
  unfold intsOk
  rw [e,h1,h2]
  simp only [Bool.not_false,Bool.true_and,decide_eq_true_eq,List.length_append]
  omega
 have hm:=dMany (one:=fun s:St2=>(intV s.1,(intS s.1,s.2))) (enc:=be8) (odd:=false) (l:=l) (fun x hx r=>by
  obtain ⟨k1,k2⟩:=dInt (h x hx) (r:=r)
  simp only [k1,k2]) r l.length (Nat.le_refl _)
 have hq:=many_eq (fun s=>(intV s,intS s)) false l.length ⟨(l.map be8).flatten++r,false⟩
 rw [hm] at hq
 simp only [List.take_length,List.drop_length,List.map_nil,List.flatten_nil,List.nil_append,Prod.mk.injEq,and_true] at hq
 constructor
 ·unfold intsV; rw [if_pos hok,e,h1,h2,Int.toNat_natCast,← hq.1]
 ·unfold intsS; rw [if_pos hok,e,h1,h2,Int.toNat_natCast,← hq.2]
def SmallB (d:List Bt):Prop:=d.length≤1000000000
structure ShdIn (s:Shd):Prop where
 nums:I64 s.lo∧I64 s.hi∧I64 s.epoch
 blocks:∀ x∈s.blocks,I64 x.no∧SmallB x.data
 kept:∀ x∈s.kept,I64 x.snap∧I64 x.no∧SmallB x.data
 locks:∀ x∈s.locks,I64 x.block∧I64 x.txn∧I64 x.age
 preps:∀ x∈s.preps,(I64 x.txn∧I64 x.age∧I64 x.snap∧I64 x.lo∧I64 x.hi)∧(∀ n∈x.parts,I64 n)∧x.parts.length≤1000000000∧(∀ w∈x.writes,I64 w.block∧SmallB w.data)∧x.writes.length≤1000000000
 dead:∀ x∈s.dead,I64 x
 outs:∀ x∈s.outs,I64 x.epoch∧I64 x.lo∧I64 x.hi∧SmallB x.data
 sess:∀ x∈s.sess,I64 x.client∧I64 x.seq∧I64 x.res.code∧SmallB x.res.data
 lens:s.blocks.length≤1000000000∧s.kept.length≤1000000000∧s.locks.length≤1000000000∧s.preps.length≤1000000000∧s.dead.length≤1000000000∧s.outs.length≤1000000000∧s.sess.length≤1000000000
theorem small_ok {d:List Bt} (h:SmallB d):d.length≤9000000000000000000:=Nat.le_trans h (by decide)
theorem getF_enc (s:Shd) (h:ShdIn s):getF (encShd s)=(s,0):=by
 obtain ⟨⟨n1,n2,n3⟩,hb,hk,hl,hp,hd,ho,hx,⟨m1,m2,m3,m4,m5,m6,m7⟩⟩:=h
 obtain ⟨lo,hi,epoch,blocks,kept,locks,preps,dead,outs,sess⟩:=s
 simp only at *
 have e0:encShd ⟨lo,hi,epoch,blocks,kept,locks,preps,dead,outs,sess⟩=be8 lo++(be8 hi++(be8 epoch++(encL' encBlk blocks++(encL' encKpt kept++(encL' encLk locks++(encL' encPrp preps++(encInts dead++(encL' encOut outs++(encL' encSes sess++[]))))))))):=by
  simp only [encShd,List.append_assoc,List.append_nil]
 generalize encShd ⟨lo,hi,epoch,blocks,kept,locks,preps,dead,outs,sess⟩=bs at e0
 subst e0
 obtain ⟨a1,a2⟩:=dInt n1 (r:=be8 hi++(be8 epoch++(encL' encBlk blocks++(encL' encKpt kept++(encL' encLk locks++(encL' encPrp preps++(encInts dead++(encL' encOut outs++(encL' encSes sess++[])))))))))
 obtain ⟨a3,a4⟩:=dInt n2 (r:=be8 epoch++(encL' encBlk blocks++(encL' encKpt kept++(encL' encLk locks++(encL' encPrp preps++(encInts dead++(encL' encOut outs++(encL' encSes sess++[]))))))))
 obtain ⟨a5,a6⟩:=dInt n3 (r:=encL' encBlk blocks++(encL' encKpt kept++(encL' encLk locks++(encL' encPrp preps++(encInts dead++(encL' encOut outs++(encL' encSes sess++[])))))))
 have b1:=dList (one:=oneBlk) (enc:=encBlk) (least:=16) (odd:=false) (l:=blocks) (fun x hx' r=>by
   obtain ⟨k1,k2⟩:=hb x hx'
   obtain ⟨q1,q2⟩:=dInt k1 (r:=blob x.data++r)
   obtain ⟨q3,q4⟩:=dBlob (small_ok k2) (r:=r)
   unfold oneBlk encBlk
   simp only [List.append_assoc,q1,q2,q3,q4]) (fun x _=>by unfold encBlk; simp only [List.length_append,be8_length,blob_length]; omega) (by omega) (by omega) (encL' encKpt kept++(encL' encLk locks++(encL' encPrp preps++(encInts dead++(encL' encOut outs++(encL' encSes sess++[]))))))
 have b2:=dList (one:=oneKpt) (enc:=encKpt) (least:=24) (odd:=false) (l:=kept) (fun x hx' r=>by
   obtain ⟨k1,k3,k2⟩:=hk x hx'
   obtain ⟨q1,q2⟩:=dInt k1 (r:=be8 x.no++(blob x.data++r))
   obtain ⟨q5,q6⟩:=dInt k3 (r:=blob x.data++r)
   obtain ⟨q3,q4⟩:=dBlob (small_ok k2) (r:=r)
   unfold oneKpt encKpt
   simp only [List.append_assoc,q1,q2,q3,q4,q5,q6]) (fun x _=>by unfold encKpt; simp only [List.length_append,be8_length,blob_length]; omega) (by omega) (by omega) (encL' encLk locks++(encL' encPrp preps++(encInts dead++(encL' encOut outs++(encL' encSes sess++[])))))
 have b3:=dList (one:=oneLk) (enc:=encLk) (least:=32) (odd:=false) (l:=locks) (fun x hx' r=>by
   obtain ⟨k1,k2,k3⟩:=hl x hx'
   obtain ⟨q1,q2⟩:=dInt k1 (r:=be8 x.txn++(be8 x.age++(be8 (bit x.write)++r)))
   obtain ⟨q3,q4⟩:=dInt k2 (r:=be8 x.age++(be8 (bit x.write)++r))
   obtain ⟨q5,q6⟩:=dInt k3 (r:=be8 (bit x.write)++r)
   obtain ⟨q7,q8⟩:=dInt (show I64 (bit x.write) by cases x.write<;>decide) (r:=r)
   unfold oneLk encLk
   simp only [List.append_assoc,q1,q2,q3,q4,q5,q6,q7,q8]
   obtain ⟨xb,xt,xa,xw⟩:=x
   cases xw<;>rfl) (fun x _=>by unfold encLk; simp only [List.length_append,be8_length]; omega) (by omega) (by omega) (encL' encPrp preps++(encInts dead++(encL' encOut outs++(encL' encSes sess++[]))))
 have b4:=dList (one:=onePrp) (enc:=encPrp) (least:=56) (odd:=false) (l:=preps) (fun x hx' r=>by
   obtain ⟨⟨k1,k2,k3,k4,k5⟩,k6,k7,k8,k9⟩:=hp x hx'
   obtain ⟨q1,q2⟩:=dInt k1 (r:=be8 x.age++(be8 x.snap++(be8 x.lo++(be8 x.hi++(encInts x.parts++(encL' encWr x.writes++r))))))
   obtain ⟨q3,q4⟩:=dInt k2 (r:=be8 x.snap++(be8 x.lo++(be8 x.hi++(encInts x.parts++(encL' encWr x.writes++r)))))
   obtain ⟨q5,q6⟩:=dInt k3 (r:=be8 x.lo++(be8 x.hi++(encInts x.parts++(encL' encWr x.writes++r))))
   obtain ⟨q7,q8⟩:=dInt k4 (r:=be8 x.hi++(encInts x.parts++(encL' encWr x.writes++r)))
   obtain ⟨q9,q10⟩:=dInt k5 (r:=encInts x.parts++(encL' encWr x.writes++r))
   obtain ⟨q11,q12⟩:=dInts k6 (by omega) (encL' encWr x.writes++r)
   have q13:=dList (one:=oneWr) (enc:=encWr) (least:=16) (odd:=false) (l:=x.writes) (fun y hy r=>by
    obtain ⟨j1,j2⟩:=k8 y hy
    obtain ⟨p1,p2⟩:=dInt j1 (r:=blob y.data++r)
    obtain ⟨p3,p4⟩:=dBlob (small_ok j2) (r:=r)
    unfold oneWr encWr
    simp only [List.append_assoc,p1,p2,p3,p4]) (fun y _=>by unfold encWr; simp only [List.length_append,be8_length,blob_length]; omega) (by omega) (by omega) r
   unfold onePrp encPrp s5
   simp only [List.append_assoc,q1,q2,q3,q4,q5,q6,q7,q8,q9,q10,q11,q12,q13]) (fun x _=>by unfold encPrp; simp only [List.length_append,be8_length,encInts_length,encL'_length]; omega) (by omega) (by omega) (encInts dead++(encL' encOut outs++(encL' encSes sess++[])))
 obtain ⟨b5,b6⟩:=dInts hd (by omega) (encL' encOut outs++(encL' encSes sess++[]))
 have b7:=dList (one:=oneOut) (enc:=encOut) (least:=32) (odd:=false) (l:=outs) (fun x hx' r=>by
   obtain ⟨k1,k2,k3,k4⟩:=ho x hx'
   obtain ⟨q1,q2⟩:=dInt k1 (r:=be8 x.lo++(be8 x.hi++(blob x.data++r)))
   obtain ⟨q3,q4⟩:=dInt k2 (r:=be8 x.hi++(blob x.data++r))
   obtain ⟨q5,q6⟩:=dInt k3 (r:=blob x.data++r)
   obtain ⟨q7,q8⟩:=dBlob (small_ok k4) (r:=r)
   unfold oneOut encOut
   simp only [List.append_assoc,q1,q2,q3,q4,q5,q6,q7,q8]) (fun x _=>by unfold encOut; simp only [List.length_append,be8_length,blob_length]; omega) (by omega) (by omega) (encL' encSes sess++[])
 have b8:=dList (one:=oneSes) (enc:=encSes) (least:=32) (odd:=false) (l:=sess) (fun x hx' r=>by
   obtain ⟨k1,k2,k3,k4⟩:=hx x hx'
   obtain ⟨q1,q2⟩:=dInt k1 (r:=be8 x.seq++(be8 x.res.code++(blob x.res.data++r)))
   obtain ⟨q3,q4⟩:=dInt k2 (r:=be8 x.res.code++(blob x.res.data++r))
   obtain ⟨q5,q6⟩:=dInt k3 (r:=blob x.res.data++r)
   obtain ⟨q7,q8⟩:=dBlob (small_ok k4) (r:=r)
   unfold oneSes encSes
   simp only [List.append_assoc,q1,q2,q3,q4,q5,q6,q7,q8]) (fun x _=>by unfold encSes; simp only [List.length_append,be8_length,blob_length]; omega) (by omega) (by omega) []
 generalize hbs:be8 lo++(be8 hi++(be8 epoch++(encL' encBlk blocks++(encL' encKpt kept++(encL' encLk locks++(encL' encPrp preps++(encInts dead++(encL' encOut outs++(encL' encSes sess++[])))))))))=bs at a1 a2
 have c3:g3 bs=intS (intS (intS ⟨bs,false⟩)):=rfl
 rw [a2,a4,a6] at c3
 have cB:gB bs=listV oneBlk 16 (g3 bs,false):=rfl
 rw [c3,b1] at cB
 have cK:gK bs=listV oneKpt 24 ((gB bs).2.1,false):=rfl
 rw [cB,b2] at cK
 have cL:gL bs=listV oneLk 32 ((gK bs).2.1,false):=rfl
 rw [cK,b3] at cL
 have cP:gP bs=listV onePrp 56 (gL bs).2:=rfl
 rw [cL,b4] at cP
 have cO:gO bs=listV oneOut 32 (intsS (gP bs).2.1,(gP bs).2.2):=rfl
 rw [cP,b6,b7] at cO
 have cX:gX bs=listV oneSes 32 (gO bs).2:=rfl
 rw [cO,b8] at cX
 unfold getF getS
 rw [cX]
 simp only [endV]
 rw [if_neg (by simp),a1,a2,a3,a4,a5,cB,cK,cL,cP,b5,cO]
end Sl
end Go.Proofs.YtpkealohodeifaaGreat
namespace Go.Proofs
open Go.Shelf
def Tryz.lays189_ren :Go.Shelf.Ren:=⟨fun|189=>245|125=>272|257=>271|128=>292|129=>293|294=>284|295=>285|296=>286|297=>287|298=>288|299=>289|216=>257|300=>290|301=>291|328=>301|329=>302|330=>303|331=>304|332=>305|215=>237|343=>308|n=>n,fun|28=>29|3=>3|46=>184|0=>0|51=>290|53=>188|4=>4|183=>285|182=>284|131=>168|5=>5|9=>9|218=>293|222=>206|228=>298|229=>299|n=>n,fun|n=>n⟩
theorem Tryz.lays189 :Go.Proofs.Lays.n189 Tryz.prog Tryz.lays189_ren:={
 mixed:=by kernel_rfl
 f125:=Tryz.func272.trans (congrArg some (by kernel_rfl))
 f128:=Tryz.func292.trans (congrArg some (by kernel_rfl))
 f129:=Tryz.func293.trans (congrArg some (by kernel_rfl))
 f189:=Tryz.func245.trans (congrArg some (by kernel_rfl))
 f215:=Tryz.func237.trans (congrArg some (by kernel_rfl))
 f216:=Tryz.func257.trans (congrArg some (by kernel_rfl))
 f257:=Tryz.func271.trans (congrArg some (by kernel_rfl))
 f294:=Tryz.func284.trans (congrArg some (by kernel_rfl))
 f295:=Tryz.func285.trans (congrArg some (by kernel_rfl))
 f296:=Tryz.func286.trans (congrArg some (by kernel_rfl))
 f297:=Tryz.func287.trans (congrArg some (by kernel_rfl))
 f298:=Tryz.func288.trans (congrArg some (by kernel_rfl))
 f299:=Tryz.func289.trans (congrArg some (by kernel_rfl))
 f300:=Tryz.func290.trans (congrArg some (by kernel_rfl))
 f301:=Tryz.func291.trans (congrArg some (by kernel_rfl))
 f328:=Tryz.func301.trans (congrArg some (by kernel_rfl))
 f329:=Tryz.func302.trans (congrArg some (by kernel_rfl))
 f330:=Tryz.func303.trans (congrArg some (by kernel_rfl))
 f331:=Tryz.func304.trans (congrArg some (by kernel_rfl))
 f332:=Tryz.func305.trans (congrArg some (by kernel_rfl))
 f343:=Tryz.func308.trans (congrArg some (by kernel_rfl))
 t0:=Tryz.underlying0
 a0:=Tryz.isAgg0
 z0:=Tryz.sizeOf0
 v0:=Tryz.zeroValue0
 t3:=Tryz.underlying3
 a3:=Tryz.isAgg3
 z3:=Tryz.sizeOf3
 v3:=Tryz.zeroValue3
 t4:=Tryz.underlying4
 a4:=Tryz.isAgg4
 z4:=Tryz.sizeOf4
 v4:=Tryz.zeroValue4
 t5:=Tryz.underlying5
 a5:=Tryz.isAgg5
 z5:=Tryz.sizeOf5
 v5:=Tryz.zeroValue5
 t9:=Tryz.underlying9
 a9:=Tryz.isAgg9
 z9:=Tryz.sizeOf9
 v9:=Tryz.zeroValue9
 t28:=Tryz.underlying29
 a28:=Tryz.isAgg29
 z28:=Tryz.sizeOf29
 v28:=Tryz.zeroValue29
 t46:=Tryz.underlying184
 a46:=Tryz.isAgg184
 z46:=Tryz.sizeOf184
 v46:=Tryz.zeroValue184
 t51:=Tryz.underlying290
 a51:=Tryz.isAgg290
 z51:=Tryz.sizeOf290
 v51:=Tryz.zeroValue290
 t53:=Tryz.underlying188
 a53:=Tryz.isAgg188
 z53:=Tryz.sizeOf188
 v53:=Tryz.zeroValue188
 t131:=Tryz.underlying168
 a131:=Tryz.isAgg168
 z131:=Tryz.sizeOf168
 v131:=Tryz.zeroValue168
 t182:=Tryz.underlying284
 a182:=Tryz.isAgg284
 z182:=Tryz.sizeOf284
 v182:=Tryz.zeroValue284
 t183:=Tryz.underlying285
 a183:=Tryz.isAgg285
 z183:=Tryz.sizeOf285
 v183:=Tryz.zeroValue285
 t218:=Tryz.underlying293
 a218:=Tryz.isAgg293
 z218:=Tryz.sizeOf293
 v218:=Tryz.zeroValue293
 t222:=Tryz.underlying206
 a222:=Tryz.isAgg206
 z222:=Tryz.sizeOf206
 v222:=Tryz.zeroValue206
 t228:=Tryz.underlying298
 a228:=Tryz.isAgg298
 z228:=Tryz.sizeOf298
 v228:=Tryz.zeroValue298
 t229:=Tryz.underlying299
 a229:=Tryz.isAgg299
 z229:=Tryz.sizeOf299
 v229:=Tryz.zeroValue299 }
open Go.Sort Go.RowKit in
theorem Tryz.slices_Sort_int (blk off cap:Nat) (zs:List Int) (w:World) (hH:Holds (Value.int .i64) w blk off zs.toArray) (hblk:blk<w.heap.size) (hsz:zs.length<4611686018427387904) :
  Calls Tryz.prog 245 #[.slice (some ⟨blk,off,none⟩) zs.length cap] w fun e w' =>
   e=.returned (.tuple #[])∧∃ n os,w'=grow (putRow (Value.int .i64) (Sort.ahead w n) blk off (zs.mergeSort fun x y=>decide (x≤y)).toArray) os:=Any.slices_Sort_int Tryz.lays189 blk off cap zs w hH hblk hsz
def Tryz.laysNm220_ren :Go.Shelf.Ren:=⟨fun|20=>246|n=>n,fun|22=>29|3=>3|4=>4|0=>0|n=>n,fun|n=>n⟩
theorem Tryz.laysNm220 :Go.Proofs.Lays2.n20 Tryz.prog Tryz.laysNm220_ren:={
 mixed:=by kernel_rfl
 f20:=Tryz.func246.trans (congrArg some (by kernel_rfl))
 t0:=Tryz.underlying0
 a0:=Tryz.isAgg0
 z0:=Tryz.sizeOf0
 v0:=Tryz.zeroValue0
 t3:=Tryz.underlying3
 a3:=Tryz.isAgg3
 z3:=Tryz.sizeOf3
 v3:=Tryz.zeroValue3
 t4:=Tryz.underlying4
 a4:=Tryz.isAgg4
 z4:=Tryz.sizeOf4
 v4:=Tryz.zeroValue4
 t22:=Tryz.underlying29
 a22:=Tryz.isAgg29
 z22:=Tryz.sizeOf29
 v22:=Tryz.zeroValue29
 i3:=by kernel_rfl }
open Go.RowKit Go.Lib Go.Sort in
theorem Tryz.slices_Compact_int_arr (blk off cap:Nat) (d:Array Int) (w:World) (hH:Holds encI w blk off d) (hsz:d.size≤9223372036854775807) (hcap:d.size≤cap) :
  Calls Tryz.prog 246 #[.slice (some ⟨blk,off,none⟩) d.size cap] w fun e w'=>e=.returned (.slice (some ⟨blk,off,none⟩) (compactUpTo d d.size).length cap)∧∃ q,w'=putRow encI (Sort.ahead w q) blk off (compactUpTo d d.size++List.replicate (d.size - (compactUpTo d d.size).length) 0).toArray:=Any.slices_Compact_int_arr Tryz.laysNm220 blk off cap d w hH hsz hcap
open Go.RowKit Go.Lib Go.Sort in
theorem Tryz.slices_Compact_int (blk off cap:Nat) (zs:List Int) (w:World) (hH:Holds (Value.int .i64) w blk off zs.toArray) (hsz:zs.length≤9223372036854775807) (hcap:zs.length≤cap) :
  Calls Tryz.prog 246 #[.slice (some ⟨blk,off,none⟩) zs.length cap] w fun e w'=>e=.returned (.slice (some ⟨blk,off,none⟩) (Lib.compact zs).length cap)∧∃ q,w'=putRow (Value.int .i64) (Sort.ahead w q) blk off (Lib.compact zs++List.replicate (zs.length - (Lib.compact zs).length) 0).toArray:=Any.slices_Compact_int Tryz.laysNm220 blk off cap zs w hH hsz hcap
open Go.RowKit Go.Lib Go.Sort in
theorem Tryz.slices_Compact_int_empty (a:Option Addr) (cap:Nat) (w:World) :
  Calls Tryz.prog 246 #[.slice a 0 cap] w fun e w'=>e=.returned (.slice a 0 cap)∧w'=w:=Any.slices_Compact_int_empty Tryz.laysNm220 a cap w
open Go.RowKit Go.Sort in
theorem Tryz.slices_Sort_int_none (p:Option Addr) (cap:Nat) (w:World) :
  Calls Tryz.prog 245 #[.slice p 0 cap] w fun e w'=>e=.returned (.tuple #[])∧w'=w:=Any.slices_Sort_int_none Tryz.lays189 p cap w
end Go.Proofs
namespace Go.Proofs.YtpkealohodeifaaGreat
open Go Go.RowKit
namespace Sl
theorem St.grow {w0 w:World} {L:Hp} (h:St w0 w L) (os:Array Obj):St w0 (Sort.grow w os) L :=
 ⟨h.below.trans ⟨rfl,rfl,rfl,by simp [Sort.grow],fun k hk=>by
  have:k<w.heap.size:=Nat.lt_of_lt_of_le hk h.below.size
  simp only [Sort.grow]
  rw [Array.getElem?_append_left this]⟩,h.sat.mono fun k _ hk=>by simp only [Sort.grow]; rw [Array.getElem?_append_left hk]⟩
theorem flat1 (l:List Int):(enc1 l).flatten=l.map (Value.int .i64):=by
 induction l with
 | nil=>rfl
 | cons x l ih=>simp only [enc1,List.map_cons,List.flatten_cons] at ih ⊢; rw [ih]; rfl
theorem putCells_row (d:List Int) (old spare:List Value) (h:old.length=d.length) :
  Sort.putCells (Value.int .i64) 0 d.toArray (old++spare).toArray=(d.map (Value.int .i64)++spare).toArray:=by
 apply Array.ext'
 apply List.ext_getElem?
 intro k
 simp only [Sort.putCells,Array.toList_mapIdx,List.getElem?_mapIdx,List.size_toArray,Nat.zero_le,Nat.zero_add,true_and,Nat.sub_zero]
 by_cases hk:k<d.length
 ·rw [List.getElem?_append_left (by omega),List.getElem?_append_left (by simpa using hk),List.getElem?_eq_getElem (by omega)]
  simp [hk]
 ·rw [List.getElem?_append_right (by omega),List.getElem?_append_right (by simpa using hk),List.length_map,h]
  cases spare[k - d.length]?<;>simp [hk]
theorem St.row {w0 w:World} {b:Nat} {old spare:List Value} {e:TypeId} {R:Hp} (h:St w0 w (pt b (.cells (old++spare).toArray e (0,0))+R)) (n:Nat) (d:List Int) (hd:old.length=d.length) :
  St w0 (Sort.putRow (Value.int .i64) (Sort.ahead w n) b 0 d.toArray) (pt b (.cells (d.map (Value.int .i64)++spare).toArray e (0,0))+R):=by
 have hh:=h.sat.left.pt.2
 refine h.set (o':=.cells (d.map (Value.int .i64)++spare).toArray e (0,0)) ?_ (fun k hk=>?_) ?_ rfl G G
 ·show ((Sort.ahead w n).heap.modify b _)[b]?=_
  rw [Array.getElem?_modify,if_pos G,show (Sort.ahead w n).heap=w.heap from rfl,hh]
  simp only [Option.map_some,Sort.onCells]
  rw [putCells_row d old spare hd]
 ·show ((Sort.ahead w n).heap.modify b _)[k]?=_
  rw [Array.getElem?_modify,if_neg (Ne.symm hk)]; rfl
 ·show w.heap.size≤((Sort.ahead w n).heap.modify b _).size
  rw [Array.size_modify]; exact Nat.le_refl _
theorem holds_row {w0 w:World} {b:Nat} {zs:List Int} {spare:List Value} {e:TypeId} {R:Hp} (h:St w0 w (pt b (.cells ((enc1 zs).flatten++spare).toArray e (0,0))+R)):Sort.Holds (Value.int .i64) w b 0 zs.toArray:=by
 have hh:=h.sat.left.pt.2
 intro j hj
 have hj':j<zs.length:=by simpa using hj
 refine ⟨?_,by simp [World.frozen?,hh]⟩
 rw [flat1] at hh
 simp only [World.cell?,hh,Nat.zero_add]
 rw [List.getElem?_toArray,List.getElem?_append_left (by simpa using hj')]
 simp [hj']
def sortI (zs:List Int):List Int:=zs.mergeSort fun x y=>decide (x≤y)
theorem sortI_length (zs:List Int):(sortI zs).length=zs.length:=by simp [sortI]
theorem sort_spec (w0:World) (v:Value) (zs:List Int) (h:Hp) (hr:isRow 3 1 (enc1 zs) v h) (hl:zs.length≤1000000000) :
  Spec Tryz.prog w0 245 [v] h (fun r h'=>isRow 3 1 (enc1 (sortI zs)) v h'):=by
 intro w fr hst
 by_cases hz:zs=[]
 ·subst hz
  obtain ⟨a,c,rfl⟩:=hr.shape
  refine (Tryz.slices_Sort_int_none a c w).mono ?_
  rintro e w' ⟨rfl,rfl⟩
  exact ⟨_,h,rfl,by show isRow _ _ (enc1 (sortI [])) _ _; rw [show sortI []=[] by simp [sortI]]; exact hr,hst⟩
 ·obtain ⟨b,cap,spare,rfl,rfl,hes,hcap,hmax,hsp⟩:=hr.nonempty (by intro e; rw [← List.length_eq_zero_iff,enc1_length] at e; exact hz (List.eq_nil_of_length_eq_zero e))
  rw [enc1_length] at *
  have hh:=hst.sat.left.pt.2
  refine (Tryz.slices_Sort_int b 0 cap zs w (holds_row hst) (Array.getElem?_eq_some_iff.1 hh).1 (by omega)).mono ?_
  rintro e w' ⟨rfl,n,os,rfl⟩
  have hst2:=(hst.row n (sortI zs) (by rw [flat1,List.length_map,sortI_length])).grow os
  rw [← flat1] at hst2
  refine ⟨_,_,rfl,?_,hst2⟩
  have:=isRow_block (E:=3) (b:=b) (cap:=cap) (spare:=spare) (enc1_len1 (sortI zs)) (by rw [enc1_length,sortI_length]; exact hcap) hmax (by rw [enc1_length,sortI_length]; exact hsp)
  rwa [enc1_length,sortI_length] at this
def compI (zs:List Int):List Int:=Lib.compact zs
theorem compI_le (zs:List Int):(compI zs).length≤zs.length:=by
 unfold compI Lib.compact Lib.compactUpTo
 rw [List.length_map]
 exact Nat.le_trans (List.length_filter_le _ _) (by simp)
theorem compact_spec (w0:World) (v:Value) (zs:List Int) (h:Hp) (hr:isRow 3 1 (enc1 zs) v h) (hl:zs.length≤1000000000) :
  Spec Tryz.prog w0 246 [v] h (fun r h'=>isRow 3 1 (enc1 (compI zs)) r h'):=by
 intro w fr hst
 by_cases hz:zs=[]
 ·subst hz
  obtain ⟨a,c,rfl⟩:=hr.shape
  refine (Tryz.slices_Compact_int_empty a c w).mono ?_
  rintro e w' ⟨rfl,rfl⟩
  exact ⟨_,h,rfl,hr,hst⟩
 ·obtain ⟨b,cap,spare,rfl,rfl,hes,hcap,hmax,hsp⟩:=hr.nonempty (by intro e; rw [← List.length_eq_zero_iff,enc1_length] at e; exact hz (List.eq_nil_of_length_eq_zero e))
  rw [enc1_length] at *
  refine (Tryz.slices_Compact_int b 0 cap zs w (holds_row hst) (by omega) hcap).mono ?_
  rintro e w' ⟨rfl,q,rfl⟩
  have hle:=compI_le zs
  have hst2:=hst.row q (compI zs++List.replicate (zs.length - (compI zs).length) 0) (by rw [flat1,List.length_map,List.length_append,List.length_replicate]; omega)
  rw [List.map_append,← flat1,List.append_assoc] at hst2
  refine ⟨_,_,rfl,?_,hst2⟩
  have:=isRow_block (E:=3) (b:=b) (cap:=cap) (spare:=(List.replicate (zs.length - (compI zs).length) (0:Int)).map (Value.int .i64)++spare) (enc1_len1 (compI zs)) (by rw [enc1_length]; omega) hmax
   (by rw [enc1_length,List.length_append,List.length_map,List.length_replicate,hsp]; omega)
  rwa [enc1_length] at this
end Sl
end Go.Proofs.YtpkealohodeifaaGreat
namespace Go.Proofs.YtpkealohodeifaaGreat
open Go Go.RowKit
namespace Sl
set_option maxHeartbeats 4000000
set_option maxRecDepth 4000
attribute [local irreducible] Hold HoldL HoldW
def busyL (l:List Lk) (k:Lk) (fixed:List Int):Bool:=l.any fun x=>clashL x k&&(decide (x.txn∈fixed)||elderL x k)
def woundsL (l:List Lk) (k:Lk):List Int:=(l.filter fun x=>clashL x k).map Lk.txn
def woundL (l:List Lk) (k:Lk):List Int:=compI (sortI (woundsL l k))
def leftL (l:List Lk) (k:Lk):List Lk:=withoutL l (woundL l k)
def TakeP (l:List Lk) (k:Lk) (fixed:List Int) (a:List Lk) (w:List Int) (e:Int):Prop :=
 if hasL l k.txn k.block k.write=true then a=l∧w=[]∧e=0
 else if busyL l k fixed=true then a=l∧w=[]∧e=11
 else if 64≤(leftL l k).length∧hasL (leftL l k) k.txn k.block false=false then a=l∧w=[]∧e=8
 else Laid (leftL l k) k a∧w=woundL l k∧e=0
theorem woundsL_le (l:List Lk) (k:Lk):(woundsL l k).length≤l.length:=by unfold woundsL; rw [List.length_map]; exact List.length_filter_le _ _
theorem woundL_le (l:List Lk) (k:Lk):(woundL l k).length≤l.length:=Nat.le_trans (compI_le _) (by rw [sortI_length]; exact woundsL_le l k)
theorem leftL_le (l:List Lk) (k:Lk):(leftL l k).length≤l.length:=List.length_filter_le _ _
theorem take20_spec (w0:World) (X:Hp) (v u:Value) (l:List Lk) (k:Lk) (fixed:List Int) (hv:RdRow w0 X 4 v (encL l)) (hu:RdRow w0 X 1 u (enc1 fixed)) (hl:l.length≤1000000) (hf:fixed.length≤1000000) :
  Spec Tryz.prog w0 233 [v,aggL k,u] X (fun r h'=>∃ va vw e a w ha hw,r=.tuple #[va,vw,.int .i64 e]∧locksAt a va ha∧isRow 3 1 (enc1 w) vw hw∧TakeP l k fixed a w e∧X+(ha+hw)=h'):=by
 have hhas:=has20_spec w0 X v l k.txn k.block k.write hv (by omega)
 have hclone:=clone20_spec w0 X v l hv (by omega)
 have hcont:=containsI_spec w0 X u fixed
 have hclash:=fun x=>clash_spec w0 x k
 have hrank:=fun x=>rankOf_spec w0 x
 have hlaid:=fun v hp hr hl=>laid_spec w0 (leftL l k) k v hp hr hl
 obtain ⟨a,c,rfl,ha⟩:=id hv
 obtain ⟨a2,c2,rfl⟩:=hu.shape
 rw [encL_length] at *
 rw [enc1_length] at *
 unfold aggL at hclash hrank hlaid ⊢
 refine zN Tryz.func233 G Tryz.ntmps233 Tryz.results233 G fun fr=>?_
 repeat (first|refine zF ?_|refine zB ?_)
 refine L_box G (c:=[_,_,_,_]) G G G (fun b4=>?_)
 repeat (first|refine zF ?_|refine zB ?_|refine zE ?_|refine zK G G G ?_|refine zZ G G G G G ?_|refine L_ld G G G G G ?_)
 refine zY G G (zQ G G G) hhas ?_
 rintro _ _ ⟨rfl,rfl⟩
 cases h1:hasL l k.txn k.block k.write
 ·repeat (first|refine zF ?_|refine zR ?_|refine zB ?_|refine zE ?_|refine zK G G G ?_|refine L_len G G G ?_|refine zP ?_|refine zI G ?_)
  refine hold_loop (fun m g L=>∃ (i:Nat) (vw:Value) (hw R:Hp),i≤l.length∧m=l.length - i∧g=[(0,.slice a l.length c),(2,.slice a2 fixed.length c2),(4,.pointer (some ⟨b4,0,none⟩)),(9,vw),(23,.slice a l.length c),(24,.int .i64 l.length),(25,.int .i64 i)] ∧
    isRow 3 1 (enc1 (woundsL (l.take i) k)) vw hw∧busyL (l.take i) k fixed=false ∧
    L=X+pt b4 (.cells [.int .i64 k.block,.int .i64 k.txn,.int .i64 k.age,.bool k.write].toArray 94 (0,0))+hw+fr+R) _ _
   ⟨0,.slice none 0 0,0,0,by omega,rfl,rfl,isRow_empty _ _ _,rfl,by simp only [yB]; first|rfl|ac_rfl⟩ (by repeat (first|exact zT _|refine zO G ?_)) ?_
  rintro m g L ⟨i,vw,hw,R,hi,rfl,rfl,hrw,hnb,rfl⟩
  repeat (first|refine zF ?_|refine zB ?_)
  refine yG G G (pv_lss G G) (fun h2=>?_) (fun h2=>?_)
  ·have hx:i<l.length:=by omega
   obtain ⟨b2,o2,rfl,hc2⟩:=ha.2 i _ (encL_at hx)
   have htk:l.take (i+1)=l.take i++[l[i]]:=List.take_succ_eq_append_getElem hx
   have hwn:woundsL (l.take (i+1)) k=woundsL (l.take i) k++(if clashL l[i] k=true then [l[i].txn] else []):=by
    unfold woundsL
    rw [htk,List.filter_append,List.map_append]
    congr 1
    by_cases hc:clashL l[i] k=true<;>simp [hc]
   have hbn:busyL (l.take (i+1)) k fixed=(clashL l[i] k&&(decide (l[i].txn∈fixed)||elderL l[i] k)):=by
    unfold busyL at hnb ⊢
    rw [htk,List.any_append,hnb]; simp
   repeat (first|refine zF ?_|refine zR ?_|refine zB ?_|refine zE ?_|refine zP ?_|refine zJ G ?_)
   refine yH G G (pv_indexAddr G G hx) ?_
   refine L_load G G (yF G) (loads_aggR G [_,_,_,_] rfl (fun j u hj=>(hc2 j u hj).frame)) ?_
   refine L_alloc (c:=[_,_,_,_]) G G G (fun b11=>?_)
   repeat (first|refine zF ?_|refine zB ?_|refine zE ?_|refine L_ldA G (vs:=[_,_,_,_]) G G G G G ?_|refine L_stA G (vs:=[_,_,_,_]) G G G G (c':=[_,_,_,_]) G G ?_)
   refine zY G G (zQ G G G) (hclash l[i]) ?_
   rintro _ _ ⟨rfl,rfl⟩
   cases hcl:clashL l[i] k
   ·rw [hcl] at hwn hbn
    simp only [Bool.false_eq_true,if_false,List.append_nil,Bool.false_and] at hwn hbn
    repeat (first|refine yD ?_|refine zB ?_|refine zE ?_|refine zK G G G ?_|refine zJ G ?_|refine L_add G G (by omega) (by omega) G G ?_)
    exact ⟨l.length - (i+1),_,by omega,(by repeat (first|exact zT _|refine zO G ?_)),i+1,vw,hw,_,by omega,rfl,rfl,by rw [hwn]; exact hrw,hbn,yK.out⟩
   ·rw [hcl] at hwn hbn
    simp only [if_true,Bool.true_and] at hwn hbn
    repeat (first|refine zF ?_|refine zE ?_|refine zK G G G ?_|refine zP ?_|refine zI G ?_)
    refine yC [3,6,8,9] [0,1,2,3,4,5,7,6,8,9,10] (by kernel_rfl) G (by kernel_rfl) (by kernel_rfl) ?_
    repeat (first|refine yI G G G G G ?_|refine yE G G G G (yA G G G) ?_|refine W_load G G G G (yF G) (zG G (zS G)) ?_)
    refine W_call G G G G (zQ G G G) (hcont l[i].txn hu (by omega)) (Kept.all _) ?_
    rintro _ _ ⟨rfl,rfl⟩
    refine ⟨(by repeat (first|exact trivial|exact zG G (zS G)|exact zL G G G|refine ⟨?_,?_⟩)),?_⟩
    have hbusy:busyL (l.take (i+1)) k fixed=true→TakeP l k fixed l [] 11:=by
     intro hb
     have:busyL l k fixed=true:=by
      unfold busyL at hb ⊢
      obtain ⟨x,hx1,hx2⟩:=List.any_eq_true.1 hb
      exact List.any_eq_true.2 ⟨x,List.mem_of_mem_take hx1,hx2⟩
     unfold TakeP
     rw [if_neg (by rw [h1]; simp),if_pos this]
     exact ⟨rfl,rfl,rfl⟩
    by_cases hm:l[i].txn∈fixed
    ·rw [decide_eq_true hm]
     repeat (first|refine yJ ?_|refine yI G G G G G ?_|refine W_skip G G G G ?_|refine W_not G G G G ?_)
     repeat (first|refine zF ?_|refine zB ?_|refine zK G G G ?_|refine zJ G ?_)
     refine zY G G (zQ G G G) hclone ?_
     rintro va _ ⟨hh,hla,rfl⟩
     repeat (first|refine zE ?_|refine zK G G G ?_|refine zM ?_)
     exact ⟨[_,_,_],X+hh,_,⟨rfl,rfl,rfl,trivial⟩,⟨va,_,11,l,[],hh,0,rfl,hla,isRow_empty _ _ _,hbusy (by rw [hbn]; simp [hm]),by rw [yB]⟩,yK.out⟩
    ·rw [decide_eq_false hm]
     repeat (first|refine yI G G G G G ?_|refine W_load G G G G (yF G) (zL (vs:=[_,_,_,_]) G G G) ?_)
     refine W_call G G G G (zQ G G G) (hrank l[i]) (Kept.all _) ?_
     rintro _ _ ⟨rfl,rfl⟩
     refine ⟨(by repeat (first|exact trivial|exact zG G (zS G)|exact zL G G G|refine ⟨?_,?_⟩)),?_⟩
     refine W_call G G G G (zQ G G G) (hrank k) (Kept.all _) ?_
     rintro _ _ ⟨rfl,rfl⟩
     refine ⟨(by repeat (first|exact trivial|exact zG G (zS G)|exact zL G G G|refine ⟨?_,?_⟩)),?_⟩
     refine W_call G G G G (zQ G G G) (elder_spec w0 l[i].age l[i].txn k.age k.txn) (Kept.all _) ?_
     rintro _ _ ⟨rfl,rfl⟩
     refine ⟨(by repeat (first|exact trivial|exact zG G (zS G)|exact zL G G G|refine ⟨?_,?_⟩)),?_⟩
     cases hel:elderV l[i].age l[i].txn k.age k.txn
     ·repeat (first|refine yJ ?_|refine yI G G G G G ?_)
      repeat (first|refine zB ?_|refine zK G G G ?_|refine zZ G G G G G ?_|refine L_ld G G G G G ?_|refine zP ?_|refine zI G ?_)
      refine L_eff G G (ev_buildSlice (vs:=[_]) (cells:=[_]) G G G G) ?_
      rintro _ _ ⟨b5,rfl,rfl⟩
      refine L_eff G G (ev_append (xs:=enc1 (woundsL (l.take i) k)) (h:=hw) (ns:=enc1 [l[i].txn]) G G hrw (rd_one G) (enc1_one _) G G G (by have:=woundsL_le (l.take i) k; rw [List.length_take] at this; simp only [enc1_length]; simp; omega)) ?_
      rintro vw' _ ⟨hw',hrw',rfl⟩
      repeat (first|refine zB ?_|refine zE ?_|refine zK G G G ?_|refine L_add G G (by omega) (by omega) G G ?_)
      rw [show enc1 (woundsL (l.take i) k)++enc1 [l[i].txn]=enc1 (woundsL (l.take (i+1)) k) by rw [hwn]; simp only [enc1,List.map_append]] at hrw'
      exact ⟨l.length - (i+1),_,by omega,(by repeat (first|exact zT _|refine zO G ?_)),i+1,vw',hw',_,by omega,rfl,rfl,hrw',by rw [hbn]; simp [hm,elderL,hel],yK.out⟩
     ·repeat (first|refine yJ ?_|refine yI G G G G G ?_)
      repeat (first|refine zF ?_|refine zB ?_|refine zK G G G ?_|refine zJ G ?_)
      refine zY G G (zQ G G G) hclone ?_
      rintro va _ ⟨hh,hla,rfl⟩
      repeat (first|refine zE ?_|refine zK G G G ?_|refine zM ?_)
      exact ⟨[_,_,_],X+hh,_,⟨rfl,rfl,rfl,trivial⟩,⟨va,_,11,l,[],hh,0,rfl,hla,isRow_empty _ _ _,hbusy (by rw [hbn]; simp [elderL,hel]),by rw [yB]⟩,yK.out⟩
  ·rw [List.take_of_length_le (by omega)] at hrw hnb
   have hwl:=woundsL_le l k
   have hwl2:=woundL_le l k
   have hll:=leftL_le l k
   repeat (first|refine zF ?_|refine yD ?_|refine zB ?_|refine zE ?_|refine zK G G G ?_|refine zI G ?_)
   refine zY G G (zQ G G G) (sort_spec w0 vw (woundsL l k) hw hrw (by omega)) ?_
   rintro _ hw2 hrw2
   repeat (first|refine zF ?_|refine zB ?_|refine zE ?_|refine zK G G G ?_)
   refine zY G G (zQ G G G) (compact_spec w0 vw (sortI (woundsL l k)) hw2 hrw2 (by rw [sortI_length]; omega)) ?_
   rintro vw3 hw3 hrw3
   change isRow 3 1 (enc1 (woundL l k)) vw3 hw3 at hrw3
   repeat (first|refine zF ?_|refine zB ?_|refine zE ?_|refine zK G G G ?_)
   have hwo:=without_spec w0 (X+hw3) _ vw3 l (woundL l k) (hv.frame (R:=hw3)) (hrw3.rd (hf:=by infer_instance)) (by omega) (by omega)
   refine zY G G (zQ G G G) hwo ?_
   rintro vl _ ⟨hl4,hla,rfl⟩
   change locksAt (leftL l k) vl hl4 at hla
   obtain ⟨a6,c6,rfl⟩:=hla.shape
   rw [encL_length] at *
   repeat (first|refine zF ?_|refine zB ?_|refine zE ?_|refine zK G G G ?_|refine L_len G G G ?_)
   have hok:¬ (64≤(leftL l k).length∧hasL (leftL l k) k.txn k.block false=false)→∀ {r'},Laid (leftL l k) k r'→TakeP l k fixed r' (woundL l k) 0:=by
    intro hn r' hld
    unfold TakeP
    rw [if_neg (by rw [h1]; simp),if_neg (by rw [hnb]; simp),if_neg hn]
    exact ⟨hld,rfl,rfl⟩
   refine yG G G (pv_geq G G) (fun h5=>?_) (fun h5=>?_)
   ·repeat (first|refine zK G G G ?_|refine zZ G G G G G ?_|refine L_ld G G G G G ?_)
    refine zY G G (zQ G G G) (has20_spec w0 hl4 _ (leftL l k) k.txn k.block false (hla.rd (R:=0)) (by omega)) ?_
    rintro _ _ ⟨rfl,rfl⟩
    cases h6:hasL (leftL l k) k.txn k.block false
    ·repeat (first|refine zF ?_|refine zB ?_|refine zE ?_|refine zK G G G ?_|refine zJ G ?_)
     refine zY G G (zQ G G G) hclone ?_
     rintro va _ ⟨hh,hlb,rfl⟩
     repeat (first|refine zE ?_|refine zK G G G ?_|refine zM ?_)
     exact ⟨[_,_,_],X+hh,_,⟨rfl,rfl,rfl,trivial⟩,⟨va,_,8,l,[],hh,0,rfl,hlb,isRow_empty _ _ _,by unfold TakeP; rw [if_neg (by rw [h1]; simp),if_neg (by rw [hnb]; simp),if_pos ⟨by omega,h6⟩]; exact ⟨rfl,rfl,rfl⟩,by rw [yB]⟩,yK.out⟩
    ·repeat (first|refine zF ?_|refine zB ?_|refine zE ?_|refine zK G G G ?_|refine zP ?_|refine zI G ?_|refine L_ldA G (vs:=[_,_,_,_]) G G G G G ?_)
     refine zY G G (zQ G G G) (hlaid _ hl4 hla (by omega)) ?_
     rintro vr hr5 ⟨r',hlr,hld⟩
     repeat (first|refine zE ?_|refine zK G G G ?_|refine zM ?_)
     exact ⟨[_,_,_],X+(hr5+hw3),_,⟨rfl,rfl,rfl,trivial⟩,⟨_,_,0,r',woundL l k,hr5,hw3,rfl,hlr,hrw3,hok (fun h=>by rw [h6] at h; exact absurd h.2 (by simp)) hld,rfl⟩,yK.out⟩
   ·repeat (first|refine zF ?_|refine zB ?_|refine zE ?_|refine zK G G G ?_|refine L_skip G G ?_|refine zP ?_|refine zI G ?_|refine L_ldA G (vs:=[_,_,_,_]) G G G G G ?_)
    refine zY G G (zQ G G G) (hlaid _ hl4 hla (by omega)) ?_
    rintro vr hr5 ⟨r',hlr,hld⟩
    repeat (first|refine zE ?_|refine zK G G G ?_|refine zM ?_)
    exact ⟨[_,_,_],X+(hr5+hw3),_,⟨rfl,rfl,rfl,trivial⟩,⟨_,_,0,r',woundL l k,hr5,hw3,rfl,hlr,hrw3,hok (fun h=>by omega) hld,rfl⟩,yK.out⟩
 ·repeat (first|refine zF ?_|refine zB ?_|refine zE ?_|refine zK G G G ?_|refine zJ G ?_)
  refine zY G G (zQ G G G) hclone ?_
  rintro va _ ⟨hh,hla,rfl⟩
  repeat (first|refine zE ?_|refine zK G G G ?_|refine zM ?_)
  exact ⟨[_,_,_],X+hh,_,⟨rfl,rfl,rfl,trivial⟩,⟨va,_,0,l,[],hh,0,rfl,hla,isRow_empty _ _ _,by unfold TakeP; rw [if_pos h1]; exact ⟨rfl,rfl,rfl⟩,by rw [yB]⟩,yK.out⟩
end Sl
end Go.Proofs.YtpkealohodeifaaGreat
namespace Go.Proofs.YtpkealohodeifaaGreat
open Go Go.RowKit
namespace Sl
theorem mem_sortI (zs:List Int) (x:Int):x∈sortI zs↔x∈zs:=by unfold sortI; exact List.mem_mergeSort
theorem sorted_sortI (zs:List Int):(sortI zs).Pairwise (·≤·):=by
 have h:=List.pairwise_mergeSort (le:=fun x y:Int=>decide (x≤y)) (fun a b c h1 h2=>by simp at *; omega) (fun a b=>by simp; omega) zs
 unfold sortI
 exact h.imp (fun h=>by simpa using h)
theorem mem_upTo (d:Array Int):∀ (m:Nat) (x:Int),x∈Lib.compactUpTo d m↔∃ j,j<m∧d[j]! = x
 | 0,x=>by simp [Lib.compactUpTo]
 | m+1,x=>by
  rw [Lib.compactUpTo_succ,List.mem_append,mem_upTo d m x]
  constructor
  ·rintro (⟨j,hj,e⟩|h)
   ·exact ⟨j,by omega,e⟩
   ·split at h
    ·simp only [List.mem_singleton] at h; exact ⟨m,by omega,h.symm⟩
    ·cases h
  ·rintro ⟨j,hj,e⟩
   by_cases hjm:j<m
   ·exact .inl ⟨j,hjm,e⟩
   ·obtain rfl:j=m:=by omega
    cases hk:Lib.keeps d j with
    | true=>right; simp [e]
    | false =>
     left
     simp only [Lib.keeps,decide_eq_false_iff_not,not_or,Decidable.not_not] at hk
     exact ⟨j - 1,by omega,by rw [← hk.2]; exact e⟩
theorem sorted_at {zs:List Int} (h:zs.Pairwise (·≤·)) {i j:Nat} (hij:i≤j) (hj:j<zs.length):zs.toArray[i]! ≤ zs.toArray[j]! := by
 have e:∀ k,k<zs.length→zs.toArray[k]! = zs.getD k 0:=fun k hk=>by simp [List.getD,hk]
 rw [e i (by omega),e j hj,List.getD_eq_getElem?_getD,List.getD_eq_getElem?_getD,List.getElem?_eq_getElem hj,List.getElem?_eq_getElem (by omega:i<zs.length)]
 simp only [Option.getD_some]
 rcases Nat.lt_or_ge i j with h1|h1
 ·exact List.pairwise_iff_getElem.1 h i j (by omega) hj h1
 ·obtain rfl:i=j:=by omega
  exact Int.le_refl _
theorem upTo_lt {zs:List Int} (h:zs.Pairwise (·≤·)):∀ m,m≤zs.length→(Lib.compactUpTo zs.toArray m).Pairwise (·<·)
 | 0,_=>by simp [Lib.compactUpTo]
 | m+1,hm=>by
  rw [Lib.compactUpTo_succ]
  refine List.pairwise_append.2 ⟨upTo_lt h m (by omega),by split<;>simp,fun x hx y hy=>?_⟩
  split at hy
  ·rename_i hk
   simp only [List.mem_singleton] at hy
   subst hy
   obtain ⟨j,hj,rfl⟩:=(mem_upTo _ _ _).1 hx
   simp only [Lib.keeps,decide_eq_true_eq] at hk
   rcases hk with hk|hk
   ·omega
   ·have h1:=sorted_at h (i:=j) (j:=m - 1) (by omega) (by omega)
    have h2:=sorted_at h (i:=m - 1) (j:=m) (by omega) (by omega)
    omega
  ·cases hy
theorem mem_compI (zs:List Int) (x:Int):x∈compI zs↔x∈zs:=by
 unfold compI Lib.compact
 rw [mem_upTo]
 constructor
 ·rintro ⟨j,hj,rfl⟩
  rw [show zs.toArray[j]! = zs[j] by simp [hj]]
  exact List.getElem_mem hj
 ·intro h
  obtain ⟨j,hj,rfl⟩:=List.getElem_of_mem h
  exact ⟨j,hj,by simp [hj]⟩
theorem lt_compI {zs:List Int} (h:zs.Pairwise (·≤·)):(compI zs).Pairwise (·<·):=upTo_lt h _ (Nat.le_refl _)
theorem mem_woundL {l:List Lk} {k:Lk} {x:Int}:x∈woundL l k↔∃ y∈l,clashL y k=true∧y.txn=x:=by
 unfold woundL
 rw [mem_compI,mem_sortI]
 unfold woundsL
 simp only [List.mem_map,List.mem_filter,and_assoc]
theorem not_busy {l:List Lk} {k:Lk} {fixed:List Int} (h:¬ busyL l k fixed=true) {y:Lk} (hy:y∈l) (hc:clashL y k=true):y.txn∉fixed∧elderL y k=false:=by
 have:(clashL y k&&(decide (y.txn∈fixed)||elderL y k))=false:=by
  have h':busyL l k fixed=false:=by simpa using h
  unfold busyL at h'
  have:=List.any_eq_false.1 h' y hy
  simpa only [Bool.not_eq_true] using this
 rw [hc] at this
 simpa using this
theorem clash_txn {y k:Lk} (hc:clashL y k=true):y.txn≠k.txn:=by
 simp only [clashL,Bool.and_eq_true,decide_eq_true_eq] at hc
 exact hc.1.2
theorem hasP_self (x:Lk):hasP x.txn x.block x.write x=true:=by simp [hasP]
theorem hasL_of_mem {l:List Lk} {x:Lk} (h:x∈l):hasL l x.txn x.block x.write=true:=List.any_eq_true.2 ⟨x,h,hasP_self x⟩
theorem Laid.mem {l r:List Lk} {k:Lk} (h:Laid l k r) {x:Lk} (hx:x∈r):x.txn=k.txn∨∃ y∈l,y.txn=x.txn:=by
 rcases h with ⟨n,hn,h1,h2,rfl⟩|⟨_,⟨n,hn,h1,h2,rfl⟩|⟨_,rfl⟩⟩
 ·rcases List.mem_or_eq_of_mem_set hx with hx|rfl
  ·exact .inr ⟨x,hx,rfl⟩
  ·exact .inr ⟨l[n],List.getElem_mem hn,rfl⟩
 ·rcases List.mem_append.1 hx with hx|hx
  ·exact .inr ⟨x,List.mem_of_mem_take hx,rfl⟩
  ·rcases List.mem_cons.1 hx with rfl|hx
   ·exact .inl G
   ·exact .inr ⟨x,List.mem_of_mem_drop hx,rfl⟩
 ·rcases List.mem_append.1 hx with hx|hx
  ·exact .inr ⟨x,hx,rfl⟩
  ·rw [List.mem_singleton] at hx; subst hx; exact .inl G
theorem Laid.has {l r:List Lk} {k:Lk} (h:Laid l k r) {x:Lk} (hx:x∈l):hasL r x.txn x.block x.write=true:=by
 rcases h with ⟨n,hn,h1,h2,rfl⟩|⟨_,⟨n,hn,h1,h2,rfl⟩|⟨_,rfl⟩⟩
 ·obtain ⟨m,hm,rfl⟩:=List.getElem_of_mem hx
  by_cases e:m=n
  ·subst e
   refine List.any_eq_true.2 ⟨{ l[m] with write:=true },List.mem_iff_getElem.2 ⟨m,by simpa using hm,by simp⟩,by simp [hasP]⟩
  ·refine hasL_of_mem (List.mem_iff_getElem.2 ⟨m,by simpa using hm,by rw [List.getElem_set_ne (Ne.symm e)]⟩)
 ·refine hasL_of_mem ?_
  rw [← List.take_append_drop n l] at hx
  rcases List.mem_append.1 hx with hx|hx
  ·exact List.mem_append_left _ hx
  ·exact List.mem_append_right _ (List.mem_cons_of_mem _ hx)
 ·exact hasL_of_mem (List.mem_append_left _ hx)
theorem Laid.length {l r:List Lk} {k:Lk} (h:Laid l k r):l.length≤r.length∧r.length≤l.length+1:=by
 rcases h with ⟨n,hn,h1,h2,rfl⟩|⟨_,⟨n,hn,h1,h2,rfl⟩|⟨_,rfl⟩⟩
 ·simp
 ·simp; omega
 ·simp
theorem withoutL_nil (l:List Lk):withoutL l []=l:=by simp [withoutL]
theorem mem_withoutL {l:List Lk} {ts:List Int} {x:Lk}:x∈withoutL l ts↔x∈l∧x.txn∉ts:=by simp [withoutL]
theorem take_ok {l a:List Lk} {k:Lk} {fixed w:List Int} {e:Int} (h:TakeP l k fixed a w e) (he:e=0) :
  (∀ x∈w,x∉fixed∧x≠k.txn)∧w.Pairwise (·<·)∧(∀ x∈l,x.txn∉w→hasL a x.txn x.block x.write=true)∧(∀ x∈a,x.txn∉w)∧(withoutL l w).length≤a.length∧a.length≤(withoutL l w).length+1:=by
 unfold TakeP at h
 by_cases h1:hasL l k.txn k.block k.write=true
 ·rw [if_pos h1] at h
  obtain ⟨rfl,rfl,_⟩:=h
  exact ⟨by simp,by simp,fun x hx _=>hasL_of_mem hx,by simp,by rw [withoutL_nil]; exact Nat.le_refl _,by rw [withoutL_nil]; omega⟩
 ·rw [if_neg h1] at h
  by_cases h2:busyL l k fixed=true
  ·rw [if_pos h2] at h; exact absurd (h.2.2.symm.trans he) (by decide)
  ·rw [if_neg h2] at h
   by_cases h3:64≤(leftL l k).length∧hasL (leftL l k) k.txn k.block false=false
   ·rw [if_pos h3] at h; exact absurd (h.2.2.symm.trans he) (by decide)
   ·rw [if_neg h3] at h
    obtain ⟨hl,rfl,_⟩:=h
    have hk:k.txn∉woundL l k:=fun hm=>by
     obtain ⟨y,hy,hc,e⟩:=mem_woundL.1 hm
     exact clash_txn hc e
    refine ⟨fun x hx=>?_,lt_compI (sorted_sortI _),fun x hx hn=>hl.has (mem_withoutL.2 ⟨hx,hn⟩),fun x hx=>?_,hl.length.1,hl.length.2⟩
    ·obtain ⟨y,hy,hc,rfl⟩:=mem_woundL.1 hx
     exact ⟨(not_busy h2 hy hc).1,clash_txn hc⟩
    ·rcases hl.mem hx with e|⟨y,hy,e⟩
     ·rw [e]; exact hk
     ·rw [← e]; exact (mem_withoutL.1 hy).2
theorem take_no {l a:List Lk} {k:Lk} {fixed w:List Int} {e:Int} (h:TakeP l k fixed a w e) (he:e≠0):a=l∧w=[]:=by
 unfold TakeP at h
 split at h
 ·exact ⟨h.1,h.2.1⟩
 ·split at h
  ·exact ⟨h.1,h.2.1⟩
  ·split at h
   ·exact ⟨h.1,h.2.1⟩
   ·exact absurd h.2.2 he
end Sl
end Go.Proofs.YtpkealohodeifaaGreat
namespace Go.Proofs.YtpkealohodeifaaGreat
open Go Go.RowKit
namespace Sl
def ltL (x y:Lk):Prop:=x.block<y.block∨(x.block=y.block∧x.txn<y.txn)
structure Safe (l:List Lk):Prop where
 sorted:l.Pairwise ltL
 calm:∀ x∈l,∀ y∈l,clashL x y=false
 few:l.length≤64
theorem safe_nil :Safe []:=⟨by simp,by simp,by simp⟩
theorem Safe.without {l:List Lk} (h:Safe l) (ts:List Int):Safe (withoutL l ts) :=
 ⟨h.sorted.sublist (List.filter_sublist),fun x hx y hy=>h.calm x (List.mem_filter.1 hx).1 y (List.mem_filter.1 hy).1,Nat.le_trans (List.length_filter_le _ _) h.few⟩
theorem ltL_trans {x y z:Lk} (h1:ltL x y) (h2:ltL y z):ltL x z:=by unfold ltL at *; omega
theorem ltL_of_not {k x:Lk} (h1:behindL k x=false) (h2:sameSpot k x=false):ltL x k:=by
 simp only [behindL,sameSpot,decide_eq_false_iff_not] at h1 h2
 unfold ltL; omega
theorem ltL_of {k x:Lk} (h1:behindL k x=true):ltL k x:=by
 simp only [behindL,decide_eq_true_eq] at h1
 unfold ltL; omega
theorem Laid.sorted {l r:List Lk} {k:Lk} (h:Laid l k r) (hs:l.Pairwise ltL):r.Pairwise ltL:=by
 rcases h with ⟨n,hn,h1,h2,rfl⟩|⟨h0,⟨n,hn,h1,h2,rfl⟩|⟨h1,rfl⟩⟩
 ·rw [List.pairwise_iff_getElem] at hs ⊢
  have key:∀ (i:Nat) (hi:i<(l.set n { l[n] with write:=true }).length),(l.set n { l[n] with write:=true })[i].block=(l[i]'(by simpa using hi)).block∧(l.set n { l[n] with write:=true })[i].txn=(l[i]'(by simpa using hi)).txn:=by
   intro i hi
   by_cases e:n=i
   ·subst e; simp
   ·rw [List.getElem_set_ne e]; exact ⟨rfl,rfl⟩
  intro i j hi hj hij
  have:=hs i j (by simpa using hi) (by simpa using hj) hij
  unfold ltL at this ⊢
  rw [(key i hi).1,(key i hi).2,(key j hj).1,(key j hj).2]
  exact this
 ·have hd:l=l.take n++l.drop n:=(List.take_append_drop n l).symm
  have hs':=hs
  rw [hd,List.pairwise_append] at hs'
  obtain ⟨s1,s2,s3⟩:=hs'
  refine List.pairwise_append.2 ⟨s1,List.pairwise_cons.2 ⟨fun y hy=>?_,s2⟩,fun x hx y hy=>?_⟩
  ·rw [List.drop_eq_getElem_cons hn] at hy s2
   rcases List.mem_cons.1 hy with rfl|hy
   ·exact ltL_of h1
   ·exact ltL_trans (ltL_of h1) ((List.pairwise_cons.1 s2).1 y hy)
  ·rcases List.mem_cons.1 hy with rfl|hy
   ·exact ltL_of_not (h2 x hx) (h0 x (List.mem_of_mem_take hx))
   ·exact s3 x hx y hy
 ·refine List.pairwise_append.2 ⟨hs,by simp,fun x hx y hy=>?_⟩
  rw [List.mem_singleton] at hy; subst hy
  exact ltL_of_not (h1 x hx) (h0 x hx)
theorem clash_comm (x y:Lk):clashL x y=clashL y x:=by
 unfold clashL
 rw [show decide (x.block=y.block)=decide (y.block=x.block) from decide_eq_decide.2 eq_comm,show decide (x.txn≠y.txn)=decide (y.txn≠x.txn) from decide_eq_decide.2 ne_comm,Bool.or_comm]
theorem clash_self (x:Lk):clashL x x=false:=by simp [clashL]
theorem Laid.calm {l r:List Lk} {k:Lk} (h:Laid l k r) (hc:∀ x∈l,∀ y∈l,clashL x y=false) (hk:∀ x∈l,clashL x k=false) (hw:∀ x∈l,sameSpot k x=true→k.write=true):∀ x∈r,∀ y∈r,clashL x y=false:=by
 have add:∀ z:Lk,(∀ x∈l,clashL x z=false)→∀ r':List Lk,(∀ x∈r',x∈l∨x=z)→∀ x∈r',∀ y∈r',clashL x y=false:=by
  intro z hz r' hr x hx y hy
  rcases hr x hx with hx|rfl<;>rcases hr y hy with hy|rfl
  ·exact hc x hx y hy
  ·exact hz x hx
  ·rw [clash_comm]; exact hz y hy
  ·exact clash_self _
 rcases h with ⟨n,hn,h1,h2,rfl⟩|⟨h0,⟨n,hn,h1,h2,rfl⟩|⟨h1,rfl⟩⟩
 ·refine add { l[n] with write:=true } (fun x hx=>?_) _ (fun x hx=>List.mem_or_eq_of_mem_set hx)
  have hkw:=hw _ (List.getElem_mem hn) h1
  have:=hk x hx
  simp only [sameSpot,decide_eq_true_eq] at h1
  simp only [clashL,h1.1,h1.2,hkw] at this ⊢
  exact this
 ·refine add k hk _ (fun x hx=>?_)
  rcases List.mem_append.1 hx with hx|hx
  ·exact .inl (List.mem_of_mem_take hx)
  ·rcases List.mem_cons.1 hx with rfl|hx
   ·exact .inr G
   ·exact .inl (List.mem_of_mem_drop hx)
 ·refine add k hk _ (fun x hx=>?_)
  rcases List.mem_append.1 hx with hx|hx
  ·exact .inl hx
  ·exact .inr (List.mem_singleton.1 hx)
theorem hasP_spot {k x:Lk}:hasP k.txn k.block k.write x=(sameSpot k x&&(x.write||!k.write)):=rfl
theorem take_safe {l a:List Lk} {k:Lk} {fixed w:List Int} {e:Int} (h:TakeP l k fixed a w e) (hs:Safe l):Safe a:=by
 by_cases he:e=0
 ·unfold TakeP at h
  by_cases h1:hasL l k.txn k.block k.write=true
  ·rw [if_pos h1] at h; rw [h.1]; exact hs
  ·rw [if_neg h1] at h
   by_cases h2:busyL l k fixed=true
   ·rw [if_pos h2] at h; rw [h.1]; exact hs
   ·rw [if_neg h2] at h
    by_cases h3:64≤(leftL l k).length∧hasL (leftL l k) k.txn k.block false=false
    ·rw [if_pos h3] at h; rw [h.1]; exact hs
    ·rw [if_neg h3] at h
     obtain ⟨hl,_,_⟩:=h
     have hsl:Safe (leftL l k):=hs.without _
     refine ⟨hl.sorted hsl.sorted,hl.calm hsl.calm (fun x hx=>?_) (fun x hx hsp=>?_),?_⟩
     ·obtain ⟨hx1,hx2⟩:=mem_withoutL.1 hx
      cases hc:clashL x k with
      | false=>rfl
      | true=>exact absurd (mem_woundL.2 ⟨x,hx1,hc,rfl⟩) hx2
     ·obtain ⟨hx1,_⟩:=mem_withoutL.1 hx
      have h1':hasL l k.txn k.block k.write=false:=by simpa using h1
      have:=List.any_eq_false.1 h1' x hx1
      rw [hasP_spot,hsp] at this
      cases hk:k.write with
      | true=>rfl
      | false=>rw [hk] at this; simp at this
     ·have hf:=hsl.few
      have hln:=hl.length
      by_cases h5:(leftL l k).length<64
      ·omega
      ·have h6:hasL (leftL l k) k.txn k.block false=true:=by
        cases hh:hasL (leftL l k) k.txn k.block false with
        | true=>rfl
        | false=>exact absurd ⟨by omega,hh⟩ h3
       obtain ⟨x,hx,hxp⟩:=List.any_eq_true.1 h6
       have hxs:sameSpot k x=true:=by simp only [hasP,Bool.not_false,Bool.or_true,Bool.and_true] at hxp; exact hxp
       rcases hl with ⟨n,hn,g1,g2,rfl⟩|⟨g0,_⟩
       ·simpa using hf
       ·rw [g0 x hx] at hxs; cases hxs
 ·rw [(take_no h he).1]; exact hs
theorem take_has {l a:List Lk} {k:Lk} {fixed w:List Int} {e:Int} (h:TakeP l k fixed a w e):hasL a k.txn k.block k.write=decide (e=0):=by
 unfold TakeP at h
 by_cases h1:hasL l k.txn k.block k.write=true
 ·rw [if_pos h1] at h; obtain ⟨rfl,_,rfl⟩:=h; rw [h1]; rfl
 ·have h1':hasL l k.txn k.block k.write=false:=by simpa using h1
  rw [if_neg h1] at h
  by_cases h2:busyL l k fixed=true
  ·rw [if_pos h2] at h; obtain ⟨rfl,_,rfl⟩:=h; rw [h1']; rfl
  ·rw [if_neg h2] at h
   by_cases h3:64≤(leftL l k).length∧hasL (leftL l k) k.txn k.block false=false
   ·rw [if_pos h3] at h; obtain ⟨rfl,_,rfl⟩:=h; rw [h1']; rfl
   ·rw [if_neg h3] at h
    obtain ⟨hl,_,rfl⟩:=h
    rw [show decide ((0:Int)=0)=true from rfl]
    rcases hl with ⟨n,hn,g1,g2,rfl⟩|⟨g0,⟨n,hn,g1,g2,rfl⟩|⟨g1,rfl⟩⟩
    ·simp only [sameSpot,decide_eq_true_eq] at g1
     exact List.any_eq_true.2 ⟨{ (leftL l k)[n] with write:=true },List.mem_iff_getElem.2 ⟨n,by simpa using hn,by simp⟩,by simp [hasP,g1]⟩
    ·exact hasL_of_mem (by simp)
    ·exact hasL_of_mem (by simp)
end Sl
end Go.Proofs.YtpkealohodeifaaGreat
namespace Go.Proofs.YtpkealohodeifaaGreat
open Go Go.RowKit
namespace Sl
set_option maxHeartbeats 4000000
set_option maxRecDepth 4000
attribute [local irreducible] Hold HoldL HoldW
theorem Spec.into {P:Program} {w0:World} {f:FuncId} {args:List Value} {Y X R:Hp} {post post':Value→Hp→Prop} (h:Spec P w0 f args Y post) (e:X=Y+R) (hp:∀ r h,post r h→post' r (h+R)):Spec P w0 f args X post':=by
 subst e
 intro w fr hw
 rw [hadd_assoc] at hw
 refine (h w _ hw).mono ?_
 rintro e w' ⟨v,k,h1,h2,h3⟩
 exact ⟨v,k+R,h1,hp _ _ h2,by rw [hadd_assoc]; exact h3⟩
def upF (k:Lk):List Lk→List Lk
 | []=>[]
 | x::l=>if sameSpot k x=true then { x with write:=true }::l else x::upF k l
def insF (k:Lk):List Lk→List Lk
 | []=>[k]
 | x::l=>if behindL k x=true then k::x::l else x::insF k l
def laidF (l:List Lk) (k:Lk):List Lk:=if l.any (sameSpot k)=true then upF k l else insF k l
theorem upF_at {k:Lk}:∀ {l:List Lk} {n:Nat} (h:n<l.length),sameSpot k l[n]=true→(∀ x∈l.take n,sameSpot k x=false)→upF k l=l.set n { l[n] with write:=true }
 | x::l,0,_,h1,_=>by simp only [List.getElem_cons_zero] at h1; simp [upF,h1]
 | x::l,n+1,h,h1,h2=>by
  have hx:sameSpot k x=false:=h2 x (by simp)
  have:=upF_at (l:=l) (n:=n) (by simpa using h) (by simpa using h1) (fun y hy=>h2 y (by simp [hy]))
  simp [upF,hx,this]
theorem insF_at {k:Lk}:∀ {l:List Lk} {n:Nat} (h:n<l.length),behindL k l[n]=true→(∀ x∈l.take n,behindL k x=false)→insF k l=l.take n++k::l.drop n
 | x::l,0,_,h1,_=>by simp only [List.getElem_cons_zero] at h1; simp [insF,h1]
 | x::l,n+1,h,h1,h2=>by
  have hx:behindL k x=false:=h2 x (by simp)
  have:=insF_at (l:=l) (n:=n) (by simpa using h) (by simpa using h1) (fun y hy=>h2 y (by simp [hy]))
  simp [insF,hx,this]
theorem insF_end {k:Lk}:∀ {l:List Lk},(∀ x∈l,behindL k x=false)→insF k l=l++[k]
 | [],_=>rfl
 | x::l,h=>by
  have hx:behindL k x=false:=h x (by simp)
  have:=insF_end (l:=l) (fun y hy=>h y (by simp [hy]))
  simp [insF,hx,this]
theorem Laid.eq {l r:List Lk} {k:Lk} (h:Laid l k r):r=laidF l k:=by
 rcases h with ⟨n,hn,h1,h2,rfl⟩|⟨h0,h⟩
 ·rw [laidF,if_pos (List.any_eq_true.2 ⟨_,List.getElem_mem hn,h1⟩),upF_at hn h1 h2]
 ·rw [laidF,if_neg (by rw [List.any_eq_false.2 (fun x hx=>by rw [h0 x hx]; simp)]; simp)]
  rcases h with ⟨n,hn,h1,h2,rfl⟩|⟨h1,rfl⟩
  ·rw [insF_at hn h1 h2]
  ·rw [insF_end h1]
def takeG (ws:List Int) (l:List Lk) (k:Lk) (fixed:List Int):List Lk × List Int × Int :=
 if hasL l k.txn k.block k.write=true then (l,[],0)
 else if busyL l k fixed=true then (l,[],11)
 else if 64≤(withoutL l ws).length∧hasL (withoutL l ws) k.txn k.block false=false then (l,[],8)
 else (laidF (withoutL l ws) k,ws,0)
theorem take_eq {l a:List Lk} {k:Lk} {fixed w:List Int} {e:Int} (h:TakeP l k fixed a w e) {ws:List Int} (hw:woundL l k=ws):(a,w,e)=takeG ws l k fixed:=by
 subst hw
 unfold TakeP leftL at h
 unfold takeG
 by_cases h1:hasL l k.txn k.block k.write=true
 ·rw [if_pos h1] at h ⊢; obtain ⟨rfl,rfl,rfl⟩:=h; rfl
 ·rw [if_neg h1] at h ⊢
  by_cases h2:busyL l k fixed=true
  ·rw [if_pos h2] at h ⊢; obtain ⟨rfl,rfl,rfl⟩:=h; rfl
  ·rw [if_neg h2] at h ⊢
   by_cases h3:64≤(withoutL l (woundL l k)).length∧hasL (withoutL l (woundL l k)) k.txn k.block false=false
   ·rw [if_pos h3] at h ⊢; obtain ⟨rfl,rfl,rfl⟩:=h; rfl
   ·rw [if_neg h3] at h ⊢; obtain ⟨hl,rfl,rfl⟩:=h; rw [hl.eq]
def takeF (l:List Lk) (k:Lk) (fixed:List Int):List Lk × List Int × Int:=takeG (woundL l k) l k fixed
theorem takeP_eq {l a:List Lk} {k:Lk} {fixed w:List Int} {e:Int} (h:TakeP l k fixed a w e):(a,w,e)=takeF l k fixed:=take_eq h G
theorem laid_F (l:List Lk) (k:Lk):Laid l k (laidF l k):=by
 by_cases h:l.any (sameSpot k)=true
 ·rcases idxF_cases (sameSpot k) l with ⟨_,h2⟩|⟨n,hn,_,h2,h3⟩
  ·obtain ⟨x,hx,h4⟩:=List.any_eq_true.1 h
   rw [h2 x hx] at h4; cases h4
  ·exact .inl ⟨n,hn,h2,h3,by rw [laidF,if_pos h,upF_at hn h2 h3]⟩
 ·have h0:∀ x∈l,sameSpot k x=false:=by
   intro x hx
   cases e:sameSpot k x
   ·rfl
   ·exact absurd (List.any_eq_true.2 ⟨x,hx,e⟩) h
  rcases idxF_cases (behindL k) l with ⟨_,h2⟩|⟨n,hn,_,h2,h3⟩
  ·exact .inr ⟨h0,.inr ⟨h2,by rw [laidF,if_neg h,insF_end h2]⟩⟩
  ·exact .inr ⟨h0,.inl ⟨n,hn,h2,h3,by rw [laidF,if_neg h,insF_at hn h2 h3]⟩⟩
theorem takeF_P (l:List Lk) (k:Lk) (fixed:List Int):TakeP l k fixed (takeF l k fixed).1 (takeF l k fixed).2.1 (takeF l k fixed).2.2:=by
 unfold takeF takeG TakeP leftL
 by_cases h1:hasL l k.txn k.block k.write=true
 ·rw [if_pos h1,if_pos h1]; exact ⟨rfl,rfl,rfl⟩
 ·rw [if_neg h1,if_neg h1]
  by_cases h2:busyL l k fixed=true
  ·rw [if_pos h2,if_pos h2]; exact ⟨rfl,rfl,rfl⟩
  ·rw [if_neg h2,if_neg h2]
   by_cases h3:64≤(withoutL l (woundL l k)).length∧hasL (withoutL l (woundL l k)) k.txn k.block false=false
   ·rw [if_pos h3,if_pos h3]; exact ⟨rfl,rfl,rfl⟩
   ·rw [if_neg h3,if_neg h3]; exact ⟨laid_F _ _,rfl,rfl⟩
theorem free20_spec (w0:World) (X:Hp) (v:Value) (l:List Lk) (t:Int) (hv:RdRow w0 X 4 v (encL l)) (hl:l.length≤1000000000) :
  Spec Tryz.prog w0 227 [v,.int .i64 t] X (fun r h'=>∃ h,locksAt (withoutL l [t]) r h∧X+h=h'):=by
 have hw:=fun b=>without_spec w0 (X+intsAt b [t]) v (.slice (some ⟨b,0,none⟩) 1 1) l [t] (hv.frame) (isRow.rd (intsAt_row (b:=b) (l:=[t]) (by simp)) (hf:=by infer_instance)) hl (by simp)
 obtain ⟨a,c,rfl⟩:=hv.shape
 refine zN Tryz.func227 G Tryz.ntmps227 Tryz.results227 G fun fr=>?_
 repeat (first|refine zF ?_|refine zB ?_|refine zE ?_|refine zK G G G ?_|refine L_bs (vs:=[_]) (cells:=[_]) G G G G G G (fun _=>?_))
 rename_i b1
 have hw1:=hw b1
 rw [show intsAt b1 [t]=pt b1 (.cells [.int .i64 t].toArray 3 (0,0)) from rfl] at hw1
 refine zY G G (zQ G G G) hw1 ?_
 rintro r _ ⟨h,hla,rfl⟩
 repeat (first|refine zE ?_|refine zK G G G ?_|refine zM ?_)
 exact ⟨[_],X+h,_,⟨rfl,trivial⟩,⟨h,hla,rfl⟩,yK.out⟩
end Sl
end Go.Proofs.YtpkealohodeifaaGreat
namespace Go.Proofs.YtpkealohodeifaaGreat
open Go Go.RowKit
namespace Sl
set_option maxHeartbeats 4000000
set_option maxRecDepth 4000
set_option synthInstance.maxHeartbeats 400000
set_option synthInstance.maxSize 100000
attribute [local irreducible] Hold HoldL HoldW
section
variable {P:Program} {g:Env}
theorem pv_max2 {x y:Operand} {ts:Array TypeId} {k:IntKind} {i j:Int} (hx:ev g x=some (.int k i)) (hy:ev g y=some (.int k j)):PV P g (.call { callee:=.builtin .max,args:=#[x,y],argTypes:=ts }) (.int k (max i j)):=by
 have:=pv_max (P:=P) (ts:=ts) hx hy
 rwa [show (if i<j then j else i)=max i j by split<;>omega] at this
theorem pv_min2 {x y:Operand} {ts:Array TypeId} {k:IntKind} {i j:Int} (hx:ev g x=some (.int k i)) (hy:ev g y=some (.int k j)):PV P g (.call { callee:=.builtin .min,args:=#[x,y],argTypes:=ts }) (.int k (min i j)):=by
 have:=pv_min (P:=P) (ts:=ts) hx hy
 rwa [show (if j<i then j else i)=min i j by split<;>omega] at this
end
abbrev stC (b:Nat) (c:List Value):Hp:=pt b (.cells c.toArray 143 (0,0))
theorem code22_spec (w0:World) (n:Int):Spec Tryz.prog w0 100 [.int .i64 n] 0 (fun r h'=>r=.agg [.int .i64 n,.slice none 0 0].toArray∧0=h'):=by
 refine zN Tryz.func100 G Tryz.ntmps100 Tryz.results100 G fun fr=>?_
 repeat (first|refine zF ?_|refine zB ?_|refine zE ?_|refine zK G G G ?_|refine zM ?_|refine L_build (vs:=[_]) (cells:=[_,_]) G G G G ?_|refine L_stA G (vs:=[_,_]) G G G G (c':=[_,_]) G G ?_|refine L_alloc (c:=[_,_]) G G G (fun _=>?_))
 exact ⟨[_],0,_,⟨⟨_,rfl,zL G G G⟩,trivial⟩,⟨rfl,rfl⟩,yK.out⟩
def isTx (t:Int) (p:Prp):Bool:=decide (p.txn=t)
theorem prepared1_spec (w0:World) (e:List Value) (p:Prp) (Y:Hp) (he:Rep.rd w0 Y p e) (b:Nat) (t:Int) :
  Spec Tryz.prog w0 226 [.agg e.toArray,.pointer (some ⟨b,0,none⟩)] (int1 b t) (fun r h'=>r=.bool (isTx t p)∧int1 b t=h'):=by
 obtain ⟨a,c,a2,c2,rfl,_,_⟩:=he
 refine zN Tryz.func226 G Tryz.ntmps226 Tryz.results226 G fun fr=>?_
 repeat (first|refine zF ?_|refine zB ?_|refine zE ?_|refine zK G G G ?_|refine zZ G G G G G ?_|refine L_ld G G G G G ?_|refine L_box G (c:=[_,_,_,_,_,_,_]) G G G (fun _=>?_))
 refine yH G G (pv_eql G G) ?_
 repeat (first|refine zE ?_|refine zK G G G ?_|refine zM ?_)
 exact ⟨[_],_,_,⟨rfl,trivial⟩,⟨rfl,rfl⟩,yK.out⟩
section
variable (w0:World) (X:Hp) (b:Nat) (lo hi ep vb vk vl vp vd vo vx:Value)
theorem prepared_spec (ps:List Prp) (t:Int) (hp:RdL w0 X vp ps) (hl:ps.length≤1000000000) :
  Spec Tryz.prog w0 190 [.pointer (some ⟨b,0,none⟩),.int .i64 t] (X+stC b [lo,hi,ep,vb,vk,vl,vp,vd,vo,vx]) (fun r h'=>r=.int .i64 (idxF (isTx t) ps)∧X+stC b [lo,hi,ep,vb,vk,vl,vp,vd,vo,vx]=h'):=by
 obtain ⟨a,c,rfl⟩:=hp.shape
 refine zN Tryz.func190 G Tryz.ntmps190 Tryz.results190 G fun fr=>?_
 repeat (first|refine zF ?_|refine zB ?_|refine zE ?_|refine zK G G G ?_|refine zZ G G G G G ?_|refine L_ld G G G G G ?_|refine L_box G (c:=[_]) G G G (fun _=>?_)|refine L_clo G G G ?_)
 rename_i b3
 refine zY G G (zQ G G G) (indexFuncPrp_spec w0 (X+int1 b3 t) _ ps 226 [.pointer (some ⟨b3,0,none⟩)] (isTx t) (hp.frame) hl (fun Y x e hx he=>Spec.frameL (hadd_comm _ _) (prepared1_spec w0 e x Y he b3 t))) ?_
 rintro _ _ ⟨rfl,rfl⟩
 repeat (first|refine zE ?_|refine zK G G G ?_|refine zM ?_)
 exact ⟨[_],_,_,⟨rfl,trivial⟩,⟨rfl,rfl⟩,yK.out⟩
theorem fixed_spec (ps:List Prp) (hp:RdL w0 X vp ps) (hl:ps.length≤1000000000) :
  Spec Tryz.prog w0 234 [.pointer (some ⟨b,0,none⟩)] (X+stC b [lo,hi,ep,vb,vk,vl,vp,vd,vo,vx]) (fun r h'=>∃ h,OwL w0 0 (ps.map Prp.txn) r h∧X+stC b [lo,hi,ep,vb,vk,vl,vp,vd,vo,vx]+h=h'):=by
 obtain ⟨a,c,rfl⟩:=hp.shape
 refine zN Tryz.func234 G Tryz.ntmps234 Tryz.results234 G fun fr=>?_
 repeat (first|refine zF ?_|refine zR ?_|refine zB ?_|refine zE ?_|refine zK G G G ?_|refine zZ G G G G G ?_|refine L_ld G G G G G ?_|refine L_len G G G ?_)
 refine hold_count ps.length (fun k g L=>∃ (vo':Value) (h R:Hp),g=[(3,vo'),(10,.slice a ps.length c),(11,.int .i64 ps.length),(12,.int .i64 k)]∧OwL w0 0 ((ps.take k).map Prp.txn) vo' h∧L=X+stC b [lo,hi,ep,vb,vk,vl,.slice a ps.length c,vd,vo,vx]+h+fr+R) _
  ⟨_,0,_,rfl,OwL.nil _ _,by simp only [yB]; exact yK.out⟩ (by repeat (first|exact zT _|refine zO G ?_)) ?_
 rintro k g L hk ⟨vo',h,R,rfl,ho,rfl⟩
 repeat (first|refine zF ?_|refine zB ?_)
 refine yG G G (pv_lss G G) (fun n1=>?_) (fun n1=>?_)
 ·have hx:k<ps.length:=by omega
  obtain ⟨b2,o2,rfl,e,⟨a1,c1,a2,c2,rfl,_,_⟩,hat⟩:=hp.at hx
  repeat (first|refine zF ?_|refine zR ?_|refine zB ?_|refine zE ?_|refine zK G G G ?_|refine zZ G G G G G ?_|refine L_ld G G G G G ?_|refine zP ?_|refine zJ G ?_|refine L_idx G G (by omega) G G ?_|refine L_atA G (by assumption) G G G G ?_|refine L_stA G (vs:=[_,_,_,_,_,_,_]) G G G G (c':=[_,_,_,_,_,_,_]) G G ?_|refine L_alloc (c:=[_,_,_,_,_,_,_]) G G G (fun _=>?_)|refine L_bs (vs:=[_]) (cells:=[_]) G G G G G G (fun _=>?_))
  rename_i b3 b4
  refine L_eff G G (ev_appendL (X:=0) (ns:=[ps[k].txn]) (h:=h) G G ho (rd_one G) (All2.one G) G G G G G (by simp only [List.length_map,List.length_take,List.length_singleton]; omega)) ?_
  rintro vo'' _ ⟨h',ho',rfl⟩
  repeat (first|refine zB ?_|refine zE ?_|refine zK G G G ?_|refine L_add G G (by omega) (by omega) G G ?_)
  refine ⟨hx,_,(by repeat (first|exact zT _|refine zO G ?_)),vo'',h',_,rfl,?_,yK.out⟩
  rw [List.take_succ_eq_append_getElem hx,List.map_append]
  exact ho'
 ·rw [List.take_of_length_le (by omega)] at ho
  repeat (first|refine zF ?_|refine yD ?_|refine zB ?_|refine zE ?_|refine zK G G G ?_|refine zM ?_|refine zI G ?_)
  exact ⟨[_],_,_,⟨rfl,trivial⟩,⟨h,ho,rfl⟩,yK.out⟩
theorem hasB_spec (l h n:Int) :
  Spec Tryz.prog w0 133 [.pointer (some ⟨b,0,none⟩),.int .i64 n] (stC b [.int .i64 l,.int .i64 h,ep,vb,vk,vl,vp,vd,vo,vx]) (fun r h'=>r=.bool (decide (l≤n∧n<h))∧stC b [.int .i64 l,.int .i64 h,ep,vb,vk,vl,vp,vd,vo,vx]=h'):=by
 refine zN Tryz.func133 G Tryz.ntmps133 Tryz.results133 G fun fr=>?_
 repeat (first|refine zF ?_|refine zB ?_|refine zE ?_|refine zK G G G ?_|refine zZ G G G G G ?_|refine L_ld G G G G G ?_)
 refine yG G G (pv_geq G G) (fun n1=>?_) (fun n1=>?_)
 ·repeat (first|refine zK G G G ?_|refine zZ G G G G G ?_|refine L_ld G G G G G ?_)
  refine yH G G (pv_lss G G) ?_
  repeat (first|refine zE ?_|refine zK G G G ?_|refine zM ?_)
  exact ⟨[_],_,_,⟨rfl,trivial⟩,⟨congrArg Value.bool (decide_eq_decide.2 ⟨fun h=>⟨by omega,h⟩,fun h=>h.2⟩),rfl⟩,yK.out⟩
 ·repeat (first|refine zE ?_|refine zK G G G ?_|refine L_skip G G ?_|refine zM ?_)
  exact ⟨[_],_,_,⟨rfl,trivial⟩,⟨(bool_no (by omega)),rfl⟩,yK.out⟩
theorem covered_spec (l h x y:Int) :
  Spec Tryz.prog w0 194 [.pointer (some ⟨b,0,none⟩),.int .i64 x,.int .i64 y] (stC b [.int .i64 l,.int .i64 h,ep,vb,vk,vl,vp,vd,vo,vx]) (fun r h'=>r=.agg [.int .i64 (max x l),.int .i64 (max (min y h) (max x l))].toArray∧stC b [.int .i64 l,.int .i64 h,ep,vb,vk,vl,vp,vd,vo,vx]=h'):=by
 refine zN Tryz.func194 G Tryz.ntmps194 Tryz.results194 G fun fr=>?_
 repeat (first|refine zF ?_|refine zB ?_|refine zE ?_|refine L_alloc (c:=[_,_]) G G G (fun _=>?_))
 refine yC [23] [0,1,2,3,4,5,6,7,8,9,10,11,12,13,14,15,16,17,18,19,20,21,22,23] (by kernel_rfl) G (by kernel_rfl) (by kernel_rfl) ?_
 repeat (first|refine yI G G G G G ?_|refine yE G G G G (yA G G G) ?_|refine W_load G G G G (yF G) (zG G (zS G)) ?_)
 refine yE G G G G (pv_max2 G G) ?_
 repeat (first|refine yI G G G G G ?_|refine yE G G G G (yA G G G) ?_|refine W_load G G G G (yF G) (zG G (zS G)) ?_)
 refine yE G G G G (pv_min2 G G) ?_
 repeat (first|refine yI G G G G G ?_|refine yE G G G G (yA G G G) ?_|refine W_load G G G G (yF G) (zG G (zS G)) ?_)
 refine yE G G G G (pv_max2 G G) ?_
 refine yE G G G G (pv_max2 G G) ?_
 repeat (refine yE G G G G (pv_build (vs:=[_,_]) (cells:=[_,_]) G G) ?_)
 refine W_eff G G G G (ev_storeA (vs:=[_,_]) G G G G (c:=[_,_]) (Nat.le_of_ble_eq_true G) (c':=[_,_]) G) (Kept.all _) ?_
 rintro _ _ rfl
 refine ⟨(by repeat (first|exact trivial|exact zG G (zS G)|exact zL G G G|exact zX G (by assumption) G|exact zH G (by assumption) G|exact zH G (by assumption) (by assumption)|refine ⟨?_,?_⟩)),?_⟩
 repeat (refine yJ ?_)
 repeat (refine zM ?_)
 exact ⟨[_],_,_,⟨⟨_,rfl,zL G G G⟩,trivial⟩,⟨rfl,rfl⟩,yK.out⟩
theorem span22_spec (l h:Int) :
  Spec Tryz.prog w0 215 [.pointer (some ⟨b,0,none⟩)] (stC b [.int .i64 l,.int .i64 h,ep,vb,vk,vl,vp,vd,vo,vx]) (fun r h'=>r=.agg [.int .i64 l,.int .i64 h].toArray∧stC b [.int .i64 l,.int .i64 h,ep,vb,vk,vl,vp,vd,vo,vx]=h'):=by
 refine zN Tryz.func215 G Tryz.ntmps215 Tryz.results215 G fun fr=>?_
 repeat (first|refine zF ?_|refine zB ?_|refine zE ?_|refine L_alloc (c:=[_,_]) G G G (fun _=>?_))
 refine yC [11] [0,1,2,3,4,5,6,7,8,9,10,11] (by kernel_rfl) G (by kernel_rfl) (by kernel_rfl) ?_
 repeat (first|refine yI G G G G G ?_|refine yE G G G G (yA G G G) ?_|refine W_load G G G G (yF G) (zG G (zS G)) ?_|refine yE G G G G (pv_build (vs:=[_,_]) (cells:=[_,_]) G G) ?_)
 refine W_eff G G G G (ev_storeA (vs:=[_,_]) G G G G (c:=[_,_]) (Nat.le_of_ble_eq_true G) (c':=[_,_]) G) (Kept.all _) ?_
 rintro _ _ rfl
 refine ⟨(by repeat (first|exact trivial|exact zG G (zS G)|exact zL G G G|exact zX G (by assumption) G|exact zH G (by assumption) G|exact zH G (by assumption) (by assumption)|refine ⟨?_,?_⟩)),?_⟩
 repeat (refine yJ ?_)
 repeat (refine zM ?_)
 exact ⟨[_],_,_,⟨⟨_,rfl,zL G G G⟩,trivial⟩,⟨rfl,rfl⟩,yK.out⟩
def mineF (ls:List Lk) (p:Prp):List Int:=if 0<p.snap then ((List.range 64).map (fun (n:Nat)=>(n:Int))).filter (fun n=>decide (p.lo≤n∧n<p.hi)&&hasL ls p.txn n false) else []
def mineTo (ls:List Lk) (p:Prp) (n:Nat):List Int:=((List.range n).map (fun (n:Nat)=>(n:Int))).filter (fun n=>decide (p.lo≤n∧n<p.hi)&&hasL ls p.txn n false)
theorem mineTo_succ (ls:List Lk) (p:Prp) (n:Nat):mineTo ls p (n+1)=mineTo ls p n++if decide (p.lo≤(n:Int)∧(n:Int)<p.hi)&&hasL ls p.txn n false then [(n:Int)] else []:=by
 unfold mineTo
 rw [List.range_succ,List.map_append,List.filter_append]
 congr 1
 simp only [List.map_cons,List.map_nil,List.filter_cons,List.filter_nil]
theorem mineTo_len (ls:List Lk) (p:Prp) (n:Nat):(mineTo ls p n).length≤n:=by
 unfold mineTo
 exact Nat.le_trans (List.length_filter_le _ _) (by simp)
theorem mineTo_skip (ls:List Lk) (p:Prp):∀ n:Nat,(n:Int)≤p.lo→mineTo ls p n=[]
 | 0,_=>rfl
 | n+1,h=>by rw [mineTo_succ,mineTo_skip ls p n (by omega),if_neg (by simp; omega)]; rfl
theorem mineTo_end (ls:List Lk) (p:Prp) (n:Nat) (h:p.hi≤(n:Int)):∀ k:Nat,mineTo ls p (n+k)=mineTo ls p n
 | 0=>rfl
 | k+1=>by rw [← Nat.add_assoc,mineTo_succ,mineTo_end ls p n h k,if_neg (by simp; omega),List.append_nil]
theorem mine_spec (ls:List Lk) (p:Prp) (e:List Value) (he:∃ Y,Rep.rd w0 Y p e) (hls:RdL w0 X vl ls) (hl:ls.length≤1000000000) :
  Spec Tryz.prog w0 132 [.pointer (some ⟨b,0,none⟩),.agg e.toArray] (X+stC b [lo,hi,ep,vb,vk,vl,vp,vd,vo,vx]) (fun r h'=>∃ h,OwL w0 0 (mineF ls p) r h∧X+stC b [lo,hi,ep,vb,vk,vl,vp,vd,vo,vx]+h=h'):=by
 obtain ⟨Y,a1,c1,a2,c2,rfl,_,_⟩:=he
 have hhas:=fun n=>has20_spec w0 X vl ls p.txn n false (rdL_locks.1 hls) hl
 obtain ⟨a,c,rfl⟩:=hls.shape
 refine zN Tryz.func132 G Tryz.ntmps132 Tryz.results132 G fun fr=>?_
 repeat (first|refine zF ?_|refine zB ?_|refine zE ?_|refine zK G G G ?_|refine zZ G G G G G ?_|refine L_ld G G G G G ?_|refine L_box G (c:=[_,_,_,_,_,_,_]) G G G (fun _=>?_))
 refine yH G G (pv_max2 G G) ?_
 repeat (first|refine zR ?_|refine zE ?_|refine zK G G G ?_)
 rename_i b3
 have h0:∃ n0:Nat,max p.lo 0=n0:=⟨(max p.lo 0).toNat,by omega⟩
 obtain ⟨n0,h0⟩:=h0
 rw [h0]
 refine hold_loop (fun m g L=>∃ (k:Nat) (v:Value) (h R:Hp),n0≤k∧(k=n0∨k≤64)∧m=64 - k∧g=[(0,.pointer (some ⟨b,0,none⟩)),(3,.pointer (some ⟨b3,0,none⟩)),(5,v),(6,.int .i64 (k:Int))]∧OwL w0 0 (if 0<p.snap then mineTo ls p k else []) v h∧(k=n0∨(k:Int)≤p.hi∧0<p.snap) ∧
   L=X+stC b [lo,hi,ep,vb,vk,.slice a ls.length c,vp,vd,vo,vx]+pt b3 (.cells [.int .i64 p.txn,.int .i64 p.age,.int .i64 p.snap,.int .i64 p.lo,.int .i64 p.hi,.slice a1 p.parts.length c1,.slice a2 p.writes.length c2].toArray 57 (0,0))+h+fr+R) _ _ ⟨n0,_,0,0,by omega,.inl G,rfl,rfl,?_,.inl G,by simp only [yB]; ac_rfl⟩ (by repeat (first|exact zT _|refine zO G ?_)) ?_
 ·have:(if 0<p.snap then mineTo ls p n0 else [])=[]:=by
   split
   ·by_cases hz:n0=0
    ·subst hz; rfl
    ·exact mineTo_skip ls p n0 (by omega)
   ·rfl
  rw [this]
  exact OwL.nil _ _
 rintro m g L ⟨k,v,h,R,k1,k2,rfl,rfl,ho,k3,rfl⟩
 have hskip:k=n0→mineTo ls p k=[]:=by
  rintro rfl
  by_cases hz:k=0
  ·subst hz; rfl
  ·exact mineTo_skip ls p k (by omega)
 have done:(p.snap≤0∨¬ ((k:Int)<min p.hi 64))→(if 0<p.snap then mineTo ls p k else [])=mineF ls p:=by
  intro hd
  show _=if 0<p.snap then mineTo ls p 64 else []
  split
  ·rename_i hs
   rcases Nat.lt_or_ge 64 k with hk|hk
   ·have e:k=n0:=by omega
    rw [hskip e,mineTo_skip ls p 64 (by omega)]
   ·have:=mineTo_end ls p k
    rcases Nat.eq_or_lt_of_le hk with rfl|hk2
    ·rfl
    ·rw [show mineTo ls p 64=mineTo ls p (k+(64 - k)) by rw [Nat.add_sub_cancel' hk],mineTo_end ls p k (by omega)]
  ·rfl
 repeat (first|refine zF ?_|refine zB ?_|refine zZ G G G G G ?_|refine L_ld G G G G G ?_)
 refine yG G G (pv_gtr G G) (fun n1=>?_) (fun n1=>?_)
 ·repeat (first|refine zK G G G ?_|refine zZ G G G G G ?_|refine L_ld G G G G G ?_)
  refine yH G G (pv_min2 G G) ?_
  refine yG G G (pv_lss G G) (fun n2=>?_) (fun n2=>?_)
  ·rw [if_pos n1] at ho
   have k4:k<64:=by omega
   have hstep:=mineTo_succ ls p k
   have hlen:=mineTo_len ls p k
   repeat (first|refine zF ?_|refine zR ?_|refine zE ?_|refine zK G G G ?_|refine zP ?_|refine zJ G ?_)
   refine yC [8] [0,1,2,3,4,5,6,7,8] (by kernel_rfl) G (by kernel_rfl) (by kernel_rfl) ?_
   repeat (first|refine yI G G G G G ?_|refine yE G G G G (yA G G G) ?_|refine W_load G G G G (yF G) (zG G (zS G)) ?_)
   refine W_call G G G G (zQ G G G) (hhas k) (Kept.all _) ?_
   rintro _ _ ⟨rfl,rfl⟩
   refine ⟨(by repeat (first|exact trivial|exact zG G (zS G)|exact zL G G G|exact zX G (by assumption) G|exact zH G (by assumption) G|exact zH G (by assumption) (by assumption)|refine ⟨?_,?_⟩)),?_⟩
   repeat (refine yJ ?_)
   have hlo:p.lo≤(k:Int)∧(k:Int)<p.hi:=by omega
   rw [decide_eq_true hlo,Bool.true_and] at hstep
   cases hh:hasL ls p.txn k false
   ·rw [hh,if_neg (by simp),List.append_nil] at hstep
    repeat (first|refine zB ?_|refine zE ?_|refine zK G G G ?_|refine zP ?_|refine zI G ?_|refine L_add G G (by omega) (by omega) G G ?_)
    refine ⟨64 - (k+1),_,by omega,(by repeat (first|exact zT _|refine zO G ?_)),k+1,v,h,_,by omega,by omega,rfl,rfl,?_,.inr ⟨by omega,n1⟩,yK.out⟩
    rw [if_pos n1,hstep]
    exact ho
   ·rw [hh,if_pos G] at hstep
    repeat (first|refine zB ?_|refine zK G G G ?_|refine zJ G ?_|refine L_bs (vs:=[_]) (cells:=[_]) G G G G G G (fun _=>?_))
    refine L_eff G G (ev_appendL (X:=0) (ns:=[(k:Int)]) (h:=h) G G ho (rd_one G) (All2.one G) G G G G G (by simp only [List.length_singleton]; omega)) ?_
    rintro vo'' _ ⟨h',ho',rfl⟩
    repeat (first|refine zB ?_|refine zE ?_|refine zK G G G ?_|refine L_add G G (by omega) (by omega) G G ?_)
    refine ⟨64 - (k+1),_,by omega,(by repeat (first|exact zT _|refine zO G ?_)),k+1,vo'',h',_,by omega,by omega,rfl,rfl,?_,.inr ⟨by omega,n1⟩,yK.out⟩
    rw [if_pos n1,hstep]
    exact ho'
  ·rw [done (.inr n2)] at ho
   repeat (first|refine zF ?_|refine yD ?_|refine zB ?_|refine zE ?_|refine zK G G G ?_|refine zM ?_|refine zI G ?_)
   exact ⟨[_],_,_,⟨rfl,trivial⟩,⟨h,ho,rfl⟩,yK.out⟩
 ·rw [done (.inl (by omega))] at ho
  repeat (first|refine zF ?_|refine yD ?_|refine zB ?_|refine zE ?_|refine zK G G G ?_|refine L_skip G G ?_|refine zM ?_|refine zI G ?_)
  exact ⟨[_],_,_,⟨rfl,trivial⟩,⟨h,ho,rfl⟩,yK.out⟩
end
end Sl
end Go.Proofs.YtpkealohodeifaaGreat
namespace Go.Proofs.YtpkealohodeifaaGreat
open Go Go.RowKit
namespace Sl
set_option maxHeartbeats 4000000
set_option maxRecDepth 4000
set_option synthInstance.maxHeartbeats 400000
set_option synthInstance.maxSize 100000
attribute [local irreducible] Hold HoldL HoldW
def sumMine (ls:List Lk) (ps:List Prp):Nat:=(ps.map fun p=>(mineF ls p).length).sum
theorem mineF_len (ls:List Lk) (p:Prp):(mineF ls p).length≤64:=by
 unfold mineF
 split
 ·exact mineTo_len ls p 64
 ·simp
theorem sumMine_len (ls:List Lk):∀ ps:List Prp,sumMine ls ps≤64*ps.length
 | []=>by simp [sumMine]
 | p::ps=>by
  have:=mineF_len ls p
  have:=sumMine_len ls ps
  simp only [sumMine,List.map_cons,List.sum_cons,List.length_cons] at *
  omega
theorem sumMine_succ (ls:List Lk) (ps:List Prp) (k:Nat) (h:k<ps.length):sumMine ls (ps.take (k+1))=sumMine ls (ps.take k)+(mineF ls ps[k]).length:=by
 unfold sumMine
 rw [List.take_succ_eq_append_getElem h,List.map_append,List.sum_append]
 simp
section
variable (w0:World) (X:Hp) (b:Nat) (lo hi ep vb vk vl vp vd vo vx:Value)
theorem keptN_spec (ls:List Lk) (ps:List Prp) (ks:List Kpt) (hls:RdL w0 X vl ls) (hp:RdL w0 X vp ps) (hk:RdL w0 X vk ks) (hl:ls.length≤1000000000) (hpl:ps.length≤1000000000) (hkl:ks.length≤1000000000) :
  Spec Tryz.prog w0 197 [.pointer (some ⟨b,0,none⟩)] (X+stC b [lo,hi,ep,vb,vk,vl,vp,vd,vo,vx]) (fun r h'=>∃ E,r=.int .i64 ((ks.length+sumMine ls ps:Nat):Int)∧X+stC b [lo,hi,ep,vb,vk,vl,vp,vd,vo,vx]+E=h'):=by
 have hmine:=fun p e he=>mine_spec w0 X b lo hi ep vb vk vl vp vd vo vx ls p e he hls hl
 obtain ⟨a,c,rfl⟩:=hp.shape
 obtain ⟨a2,c2,rfl⟩:=hk.shape
 refine zN Tryz.func197 G Tryz.ntmps197 Tryz.results197 G fun fr=>?_
 repeat (first|refine zF ?_|refine zR ?_|refine zB ?_|refine zE ?_|refine zK G G G ?_|refine zZ G G G G G ?_|refine L_ld G G G G G ?_|refine L_len G G G ?_)
 refine hold_count ps.length (fun k g L=>∃ (E R:Hp),g=[(0,.pointer (some ⟨b,0,none⟩)),(3,.int .i64 ((ks.length+sumMine ls (ps.take k):Nat):Int)),(16,.slice a ps.length c),(17,.int .i64 ps.length),(18,.int .i64 k)]∧L=X+stC b [lo,hi,ep,vb,.slice a2 ks.length c2,vl,.slice a ps.length c,vd,vo,vx]+E+fr+R) _
  ⟨0,_,rfl,by simp only [yB]; exact yK.out⟩ (by repeat (first|exact zT _|refine zO G ?_)) ?_
 rintro k g L hk ⟨E,R,rfl,rfl⟩
 repeat (first|refine zF ?_|refine zB ?_)
 refine yG G G (pv_lss G G) (fun n1=>?_) (fun n1=>?_)
 ·have hx:k<ps.length:=by omega
  obtain ⟨b2,o2,rfl,e,he,hat⟩:=hp.at hx
  have hm:=hmine ps[k] e ⟨_,he⟩
  obtain ⟨a1,c1,a3,c3,rfl,_,_⟩:=he
  have hs:=sumMine_succ ls ps k hx
  have hle:=mineF_len ls ps[k]
  have hle2:=sumMine_len ls (ps.take k)
  rw [List.length_take] at hle2
  repeat (first|refine zF ?_|refine zR ?_|refine zB ?_|refine zE ?_|refine zK G G G ?_|refine zP ?_|refine zJ G ?_|refine L_idx G G (by omega) G G ?_|refine L_atA G (by assumption) G G G G ?_|refine L_ldA G (vs:=[_,_,_,_,_,_,_]) G G G G G ?_|refine L_stA G (vs:=[_,_,_,_,_,_,_]) G G G G (c':=[_,_,_,_,_,_,_]) G G ?_|refine L_alloc (c:=[_,_,_,_,_,_,_]) G G G (fun _=>?_))
  refine zY G G (zQ G G G) hm ?_
  rintro vm _ ⟨h,ho,rfl⟩
  obtain ⟨a4,c4,rfl⟩:=ho.shape
  repeat (first|refine zB ?_|refine zE ?_|refine zK G G G ?_|refine L_len G G G ?_|refine L_add G G (by omega) (by omega) G G ?_)
  rw [show ((ks.length+sumMine ls (ps.take k):Nat):Int)+((mineF ls ps[k]).length:Int)=((ks.length+sumMine ls (ps.take (k+1)):Nat):Int) by rw [hs]; omega]
  exact ⟨hx,_,(by repeat (first|exact zT _|refine zO G ?_)),E+h,_,rfl,yK.out⟩
 ·rw [List.take_of_length_le (by omega)]
  repeat (first|refine zF ?_|refine yD ?_|refine zB ?_|refine zE ?_|refine zK G G G ?_|refine zM ?_|refine zI G ?_)
  exact ⟨[_],_,_,⟨rfl,trivial⟩,⟨E,rfl,rfl⟩,yK.out⟩
end
theorem bool_yes' {x:Bool} (h:x=true):Value.bool true=.bool x:=by rw [h]
theorem bool_no' {x:Bool} (h:x=false):Value.bool false=.bool x:=by rw [h]
theorem clientOf_spec (w0:World) (t:Int):Spec Tryz.prog w0 232 [.int .i64 t] 0 (fun r h'=>r=.int .i64 (t.fdiv 1048576)∧0=h'):=by
 refine zN Tryz.func232 G Tryz.ntmps232 Tryz.results232 G fun fr=>?_
 repeat (first|refine zF ?_|refine zB ?_|refine zE ?_|refine zK G G G ?_)
 refine yH G G (pv_shr G G (by decide)) ?_
 repeat (first|refine zE ?_|refine zK G G G ?_|refine zM ?_)
 exact ⟨[_],0,_,⟨rfl,trivial⟩,⟨rfl,rfl⟩,yK.out⟩
def eldF (txn t:Int):Bool:=decide (t.fdiv 1048576=txn.fdiv 1048576)&&decide (t<txn)
theorem forget1_spec (w0:World) (t:Int) (b:Nat) (txn:Int) :
  Spec Tryz.prog w0 231 [.int .i64 t,.pointer (some ⟨b,0,none⟩)] (int1 b txn) (fun r h'=>r=.bool (eldF txn t)∧int1 b txn=h'):=by
 refine zN Tryz.func231 G Tryz.ntmps231 Tryz.results231 G fun fr=>?_
 repeat (first|refine zF ?_|refine zB ?_|refine zE ?_|refine zK G G G ?_)
 refine yC [1,3] [0,2,1,3,4,5,6,7,8,9,10] (by kernel_rfl) G (by kernel_rfl) (by kernel_rfl) ?_
 repeat (first|refine yI G G G G G ?_|refine W_load G G G G (yF G) (zG G (zS G)) ?_)
 refine W_call G G G G (zQ G G G) (clientOf_spec w0 t) (Kept.all _) ?_
 rintro _ _ ⟨rfl,rfl⟩
 refine ⟨(by repeat (first|exact trivial|exact zG G (zS G)|exact zL G G G|exact zX G (by assumption) G|exact zH G (by assumption) G|exact zH G (by assumption) (by assumption)|refine ⟨?_,?_⟩)),?_⟩
 skip
 refine W_call G G G G (zQ G G G) (clientOf_spec w0 txn) (Kept.all _) ?_
 rintro _ _ ⟨rfl,rfl⟩
 refine ⟨(by repeat (first|exact trivial|exact zG G (zS G)|exact zL G G G|exact zX G (by assumption) G|exact zH G (by assumption) G|exact zH G (by assumption) (by assumption)|refine ⟨?_,?_⟩)),?_⟩
 refine W_bool G G G G (pv_eql G G) (fun n1=>?_) (fun n1=>?_)
 ·repeat (first|refine yI G G G G G ?_|refine W_load G G G G (yF G) (zG G (zS G)) ?_)
  refine W_bool G G G G (pv_lss G G) (fun n2=>?_) (fun n2=>?_)
  ·repeat (first|refine yJ ?_|refine yI G G G G G ?_)
   repeat (refine zM ?_)
   exact ⟨[_],_,_,⟨rfl,trivial⟩,⟨bool_yes' (by unfold eldF; rw [n1,n2]; rfl),rfl⟩,yK.out⟩
  ·repeat (first|refine yJ ?_|refine yI G G G G G ?_)
   repeat (refine zM ?_)
   exact ⟨[_],_,_,⟨rfl,trivial⟩,⟨bool_no' (by unfold eldF; rw [n1,n2]; rfl),rfl⟩,yK.out⟩
 ·repeat (first|refine yJ ?_|refine yI G G G G G ?_|refine W_skip G G G G ?_)
  repeat (refine zM ?_)
  exact ⟨[_],_,_,⟨rfl,trivial⟩,⟨bool_no' (by unfold eldF; rw [n1]; rfl),rfl⟩,yK.out⟩
section
variable (w0:World) (X:Hp) (b:Nat) (lo hi ep vb vk vl vp vd vo vx:Value)
theorem forget_spec (d:List Int) (h:Hp) (t:Int) (hd:OwL w0 0 d vd h) (hl:d.length≤1000000000) :
  Spec Tryz.prog w0 192 [.pointer (some ⟨b,0,none⟩),.int .i64 t] (X+stC b [lo,hi,ep,vb,vk,vl,vp,vd,vo,vx]+h) (fun r h'=>∃ vd' h2,r=.tuple #[]∧OwL w0 0 (d.filter fun x=>!eldF t x) vd' h2∧X+stC b [lo,hi,ep,vb,vk,vl,vp,vd',vo,vx]+h2=h'):=by
 obtain ⟨a,c,rfl⟩:=hd.shape
 refine zN Tryz.func192 G Tryz.ntmps192 Tryz.results192 G fun fr=>?_
 repeat (first|refine zF ?_|refine zB ?_|refine zE ?_|refine zK G G G ?_|refine zZ G G G G G ?_|refine L_ld G G G G G ?_|refine L_box G (c:=[_]) G G G (fun _=>?_)|refine L_clo G G G ?_)
 rename_i b3
 refine zY G G (zQ G G G) (deleteFuncI_spec w0 (int1 b3 t) d _ h 231 [.pointer (some ⟨b3,0,none⟩)] (eldF t) hd.plainI hl (fun x hx=>forget1_spec w0 x b3 t)) ?_
 rintro vd' _ ⟨h2,ho,rfl⟩
 obtain ⟨a2,c2,rfl⟩:=ho.shape
 repeat (first|refine zE ?_|refine zK G G G ?_|refine zZ G G G G G ?_|refine L_st G G G (c':=[_,_,_,_,_,_,_,_,_,_]) G G G G ?_)
 refine ⟨[],_,_,trivial,⟨_,h2,rfl,ho.plainI,rfl⟩,yK.out⟩
end
end Sl
end Go.Proofs.YtpkealohodeifaaGreat
namespace Go.Proofs.YtpkealohodeifaaGreat
open Go Go.RowKit
namespace Sl
set_option maxHeartbeats 4000000
set_option maxRecDepth 4000
set_option synthInstance.maxHeartbeats 400000
set_option synthInstance.maxSize 100000
attribute [local irreducible] Hold HoldL HoldW
def insD (d:List Int) (t:Int):List Int:=d.filter (fun x=>decide (x<t))++t::d.filter (fun x=>decide (t<x))
theorem insD_rises {d:List Int} (hd:Rises d) (t:Int):Rises (insD d t):=by
 unfold Rises insD at *
 rw [List.pairwise_append,List.pairwise_cons]
 refine ⟨hd.filter _,⟨?_,hd.filter _⟩,?_⟩
 ·intro x hx; simpa using (List.mem_filter.1 hx).2
 ·intro x hx y hy
  have h1:x<t:=by simpa using (List.mem_filter.1 hx).2
  rcases List.mem_cons.1 hy with rfl|hy
  ·exact h1
  ·have h2:t<y:=by simpa using (List.mem_filter.1 hy).2
   omega
theorem insD_len (d:List Int) (t:Int):(insD d t).length≤d.length+1:=by
 unfold insD
 have:∀ l:List Int,(l.filter (fun x=>decide (x<t))).length+(l.filter (fun x=>decide (t<x))).length≤l.length:=by
  intro l
  induction l with
  | nil=>simp
  | cons x l ih =>
   simp only [List.filter_cons,List.length_cons]
   by_cases h1:x<t
   ·have h2:¬ t<x:=by omega
    simp only [h1,h2,decide_true,decide_false,if_true,if_false,List.length_cons]
    simp only [Bool.false_eq_true,if_false]; omega
   ·by_cases h2:t<x
    ·simp only [h1,h2,decide_true,decide_false,if_true,if_false,List.length_cons]
     simp only [Bool.false_eq_true,if_false]; omega
    ·simp only [h1,h2,decide_false]
     simp only [Bool.false_eq_true,if_false]; omega
 have:=this d
 simp only [List.length_append,List.length_cons]
 omega
theorem mem_insD {d:List Int} {t x:Int}:x∈insD d t↔x=t∨x∈d:=by
 unfold insD
 simp only [List.mem_append,List.mem_cons,List.mem_filter,decide_eq_true_eq]
 constructor
 ·rintro (⟨h,_⟩|rfl|⟨h,_⟩)
  ·exact .inr h
  ·exact .inl G
  ·exact .inr h
 ·rintro (rfl|h)
  ·exact .inr (.inl G)
  ·rcases Int.lt_trichotomy x t with h1|h1|h1
   ·exact .inl ⟨h,h1⟩
   ·exact .inr (.inl h1)
   ·exact .inr (.inr ⟨h,h1⟩)
def endD (d:List Int) (ts:List Int):List Int:=ts.foldl insD d
theorem endD_rises :∀ (ts:List Int) {d:List Int},Rises d→Rises (endD d ts)
 | [],_,h=>h
 | t::ts,_,h=>endD_rises ts (insD_rises h t)
theorem endD_len :∀ (ts d:List Int),(endD d ts).length≤d.length+ts.length
 | [],d=>by simp [endD]
 | t::ts,d=>by
  have h1:=endD_len ts (insD d t)
  have h2:=insD_len d t
  show (endD (insD d t) ts).length≤_
  simp only [List.length_cons]; omega
theorem mem_endD {x:Int}:∀ {ts d:List Int},x∈endD d ts↔x∈ts∨x∈d
 | [],d=>by simp [endD]
 | t::ts,d=>by
  show x∈endD (insD d t) ts↔_
  rw [mem_endD,mem_insD,List.mem_cons]
  constructor
  ·rintro (h|h|h)
   ·exact .inl (.inr h)
   ·exact .inl (.inl h)
   ·exact .inr h
  ·rintro ((h|h)|h)
   ·exact .inr (.inl h)
   ·exact .inl h
   ·exact .inr (.inr h)
theorem withoutL_cons (l:List Lk) (t:Int) (ts:List Int):withoutL (withoutL l ts) [t]=withoutL l (ts++[t]):=by
 unfold withoutL
 rw [List.filter_filter]
 congr 1
 funext k
 simp only [List.mem_append,List.mem_singleton,← Bool.not_or,Bool.decide_or]
 rw [Bool.or_comm]
theorem withoutL_len (l:List Lk) (ts:List Int):(withoutL l ts).length≤l.length:=List.length_filter_le _ _
theorem ins_found {d:List Int} {t:Int} {i:Nat} (hd:Rises d) (hb:BsAt (fun x=>decide (x<t)) d i) (hf:foundAt (fun x=>x - t) d i=true):d=insD d t:=by
 obtain ⟨h,h1,h2,h3,_⟩:=bs_found (key:=id) (t:=t) hd (by simpa [show ∀ x:Int,(x - t<0)=(x<t) from fun x=>propext ⟨by omega,by omega⟩] using hb) hf
 unfold insD
 have e:d=d.take i++d[i]::d.drop (i+1):=by rw [← List.drop_eq_getElem_cons h,List.take_append_drop]
 conv=>lhs; rw [e]
 rw [h2,h3]
 simp only [id] at h1 ⊢
 rw [h1]
theorem ins_missed {d:List Int} {t:Int} {i:Nat} (hd:Rises d) (hb:BsAt (fun x=>decide (x<t)) d i) (hf:foundAt (fun x=>x - t) d i=false):d.take i++t::d.drop i=insD d t:=by
 obtain ⟨h2,h3,_⟩:=bs_missed (key:=id) (t:=t) hd (by simpa [show ∀ x:Int,(x - t<0)=(x<t) from fun x=>propext ⟨by omega,by omega⟩] using hb) hf
 unfold insD
 rw [h2,h3]
 rfl
section
variable (w0:World) (X:Hp) (b:Nat) (lo hi ep vb vk vp vo vx:Value)
theorem end_spec (vl vd vt:Value) (ls:List Lk) (d ts:List Int) (h1 h2:Hp) (ht:RdL w0 X vt ts) (hl:OwL w0 0 ls vl h1) (hd:OwL w0 0 d vd h2) (hr:Rises d) (n1:ls.length≤1000000) (n2:d.length≤1000000) (n3:ts.length≤1000000) :
  Spec Tryz.prog w0 191 [.pointer (some ⟨b,0,none⟩),vt] (X+(stC b [lo,hi,ep,vb,vk,vl,vp,vd,vo,vx]+h1+h2))
   (fun r h'=>∃ E vl' vd' h1' h2',r=.tuple #[]∧OwL w0 0 (withoutL ls ts) vl' h1'∧OwL w0 0 (endD d ts) vd' h2'∧X+E+(stC b [lo,hi,ep,vb,vk,vl',vp,vd',vo,vx]+h1'+h2')=h'):=by
 obtain ⟨a,c,rfl⟩:=ht.shape
 obtain ⟨a1,c1,rfl⟩:=hl.shape
 obtain ⟨a2,c2,rfl⟩:=hd.shape
 refine zN Tryz.func191 G Tryz.ntmps191 Tryz.results191 G fun fr=>?_
 repeat (first|refine zF ?_|refine zR ?_|refine zB ?_|refine zE ?_|refine zK G G G ?_|refine L_len G G G ?_)
 refine hold_count ts.length (fun k g L=>∃ (E R:Hp) (al:Option Addr) (cl:Nat) (ad:Option Addr) (cd:Nat) (h1' h2':Hp),g=[(0,.pointer (some ⟨b,0,none⟩)),(8,.slice a ts.length c),(9,.int .i64 ts.length),(10,.int .i64 k)] ∧
   OwL w0 0 (withoutL ls (ts.take k)) (.slice al (withoutL ls (ts.take k)).length cl) h1'∧OwL w0 0 (endD d (ts.take k)) (.slice ad (endD d (ts.take k)).length cd) h2'∧L=X+E+(stC b [lo,hi,ep,vb,vk,.slice al (withoutL ls (ts.take k)).length cl,vp,.slice ad (endD d (ts.take k)).length cd,vo,vx]+h1'+h2')+fr+R) _
  ⟨0,0,a1,c1,a2,c2,h1,h2,rfl,by rw [List.take_zero,withoutL_nil]; exact hl,hd,by rw [List.take_zero,withoutL_nil]; simp only [yB]; ac_rfl⟩ (by repeat (first|exact zT _|refine zO G ?_)) ?_
 rintro k g L hk ⟨E,R,al,cl,ad,cd,h1',h2',rfl,hl',hd',rfl⟩
 repeat (first|refine zF ?_|refine zB ?_)
 refine yG G G (pv_lss G G) (fun n4=>?_) (fun n4=>?_)
 ·have hx:k<ts.length:=by omega
  have hdr:=endD_rises (ts.take k) hr
  have hdl:=endD_len (ts.take k) d
  rw [List.length_take] at hdl
  have hll:=withoutL_len ls (ts.take k)
  have el:withoutL (withoutL ls (ts.take k)) [ts[k]]=withoutL ls (ts.take (k+1)):=by rw [withoutL_cons,List.take_succ_eq_append_getElem hx]
  have ed:insD (endD d (ts.take k)) ts[k]=endD d (ts.take (k+1)):=by unfold endD; rw [List.take_succ_eq_append_getElem hx,List.foldl_append]; rfl
  generalize withoutL ls (ts.take k)=lk at hl' hll el
  generalize endD d (ts.take k)=dk at hd' hdr hdl ed
  obtain ⟨b2,o2,rfl,e,rfl,hat⟩:=ht.at hx
  repeat (first|refine zF ?_|refine zR ?_|refine zB ?_|refine zE ?_|refine zK G G G ?_|refine zZ G G G G G ?_|refine L_ld G G G G G ?_|refine zP ?_|refine zJ G ?_|refine L_idx G G (by omega) G G ?_|refine L_at G (by assumption) G G G G ?_)
  refine zY G G (zQ G G G) (free20_spec w0 h1' _ lk ts[k] (rdL_locks.1 hl'.rdh) (by omega)) ?_
  rintro vl2 _ ⟨h3,ho3,rfl⟩
  rw [el] at ho3
  replace ho3:=owL_locks (w0:=w0) (X:=0).2 ho3
  obtain ⟨a3,c3,rfl⟩:=ho3.shape
  repeat (first|refine zF ?_|refine zB ?_|refine zE ?_|refine zK G G G ?_|refine zZ G G G G G ?_|refine L_ld G G G G G ?_|refine L_st G G G (c':=[_,_,_,_,_,_,_,_,_,_]) G G G G ?_)
  refine zY G G (zQ G G G) (binarySearchI_spec w0 h2' _ dk ts[k] hd'.rdh (by omega)) ?_
  rintro _ _ ⟨i,rfl,hb,rfl⟩
  repeat (first|refine zF ?_|refine zB ?_|refine zE ?_|refine zK G G G ?_)
  cases hf:foundAt (fun x=>x - ts[k]) dk i
  ·have e2:=ins_missed hdr hb hf
   repeat (first|refine zB ?_|refine zK G G G ?_|refine zZ G G G G G ?_|refine L_ld G G G G G ?_|refine zJ G ?_|refine L_bs (vs:=[_]) (cells:=[_]) G G G G G G (fun _=>?_))
   rename_i bi
   obtain ⟨es,q1,q2⟩:=id hd'
   have hes:=rdI_enc.1 q2
   subst hes
   have hbi:=hb.1
   refine zY G G (zQ G G G) (insertAtInt_spec w0 (enc1 dk) _ h2' bi i [.int .i64 ts[k]] q1 (by rw [enc1_length]; exact hbi) q2.ones G (by simp [Value.oneCell']) (by rw [enc1_length]; omega)) ?_
   rintro vd2 h4 hrow
   rw [show (enc1 dk).take i++[.int .i64 ts[k]]::(enc1 dk).drop i=enc1 (endD d (ts.take (k+1))) by rw [← ed,← e2]; simp [enc1]] at hrow
   have ho4:=(owL_ints (w0:=w0) (X:=0)).2 hrow
   obtain ⟨a4,c4,rfl⟩:=ho4.shape
   repeat (first|refine zB ?_|refine zE ?_|refine zK G G G ?_|refine zZ G G G G G ?_|refine L_add G G (by omega) (by omega) G G ?_|refine L_st G G G (c':=[_,_,_,_,_,_,_,_,_,_]) G G G G ?_)
   exact ⟨hx,_,(by repeat (first|exact zT _|refine zO G ?_)),E+h1',_,a3,c3,a4,c4,h3,h4,rfl,ho3,ho4,yK.out⟩
  ·have e2:=ins_found hdr hb hf
   repeat (first|refine zB ?_|refine zE ?_|refine zK G G G ?_|refine zP ?_|refine zI G ?_|refine L_add G G (by omega) (by omega) G G ?_)
   rw [e2,ed] at hd'
   have e3:dk.length=(endD d (ts.take (k+1))).length:=by rw [← ed,← e2]
   rw [e3]
   exact ⟨hx,_,(by repeat (first|exact zT _|refine zO G ?_)),E+h1',_,a3,c3,ad,cd,h3,h2',rfl,ho3,hd',yK.out⟩
 ·rw [List.take_of_length_le (by omega)] at hl' hd' ⊢
  repeat (first|refine zF ?_|refine yD ?_|refine zE ?_|refine zI G ?_)
  exact ⟨[],_,_,trivial,⟨E,_,_,h1',h2',rfl,hl',hd',rfl⟩,yK.out⟩
def lockS (ls:List Lk) (d:List Int) (k:Lk) (fixed:List Int):List Lk × List Int × Int :=
 if (takeF ls k fixed).2.2=11 then (ls,d,11) else if (takeF ls k fixed).2.2=8 then (withoutL ls [k.txn],endD d [k.txn],24)
 else (withoutL (takeF ls k fixed).1 (takeF ls k fixed).2.1,endD d (takeF ls k fixed).2.1,0)
theorem TakeP.lens {l a:List Lk} {k:Lk} {fixed w:List Int} {e:Int} (h:TakeP l k fixed a w e):a.length≤l.length+1∧w.length≤l.length∧(e=0∨e=11∨e=8):=by
 unfold TakeP at h
 split at h
 ·obtain ⟨rfl,rfl,rfl⟩:=h; simp
 ·split at h
  ·obtain ⟨rfl,rfl,rfl⟩:=h; simp
  ·split at h
   ·obtain ⟨rfl,rfl,rfl⟩:=h; simp
   ·obtain ⟨h1,rfl,rfl⟩:=h
    have:=h1.length
    have:=leftL_le l k
    exact ⟨by omega,woundL_le l k,.inl G⟩
theorem take22_spec (vl vd:Value) (ls:List Lk) (d:List Int) (ps:List Prp) (k:Lk) (h1 h2:Hp) (hp:RdL w0 X vp ps) (hl:OwL w0 0 ls vl h1) (hd:OwL w0 0 d vd h2) (hr:Rises d) (n1:ls.length<1000000) (n2:d.length≤1000000) (n3:ps.length≤1000000) :
  Spec Tryz.prog w0 193 [.pointer (some ⟨b,0,none⟩),.agg #[.int .i64 k.block,.int .i64 k.txn,.int .i64 k.age,.bool k.write]] (X+(stC b [lo,hi,ep,vb,vk,vl,vp,vd,vo,vx]+h1+h2))
   (fun r h'=>∃ E vl' vd' h1' h2',r=.int .i64 (lockS ls d k (ps.map Prp.txn)).2.2∧OwL w0 0 (lockS ls d k (ps.map Prp.txn)).1 vl' h1'∧OwL w0 0 (lockS ls d k (ps.map Prp.txn)).2.1 vd' h2'∧X+E+(stC b [lo,hi,ep,vb,vk,vl',vp,vd',vo,vx]+h1'+h2')=h'):=by
 have hfix:=fixed_spec w0 X b lo hi ep vb vk vl vp vd vo vx ps hp (by omega)
 obtain ⟨a1,c1,rfl⟩:=hl.shape
 obtain ⟨a2,c2,rfl⟩:=hd.shape
 refine zN Tryz.func193 G Tryz.ntmps193 Tryz.results193 G fun fr=>?_
 repeat (first|refine zF ?_|refine zB ?_|refine zE ?_|refine zK G G G ?_|refine L_box G (c:=[_,_,_,_]) G G G (fun _=>?_))
 rename_i b3
 refine yC [7,8] [0,1,2,3,4,5,6,7,8,9,10,11,12,13,14,15] (by kernel_rfl) G (by kernel_rfl) (by kernel_rfl) ?_
 repeat (first|refine yI G G G G G ?_|refine yE G G G G (yA G G G) ?_|refine W_load G G G G (yF G) (zG G (zS G)) ?_|refine W_load G G G G (yF G) (zL (vs:=[_,_,_,_]) G G G) ?_)
 refine W_call G G G G (zQ G G G) hfix (Kept.all _) ?_
 rintro vf _ ⟨h3,ho3,rfl⟩
 refine ⟨(by repeat (first|exact trivial|exact zG G (zS G)|exact zL G G G|exact zX G (by assumption) G|exact zH G (by assumption) G|exact zH G (by assumption) (by assumption)|refine ⟨?_,?_⟩)),?_⟩
 have htk:=take20_spec w0 (h1+h3) (.slice a1 ls.length c1) vf ls k (ps.map Prp.txn) (rdL_locks.1 (hl.rd (X:=0) (L:=h1+h3) (R:=h3) (hf:=⟨by simp only [hzero_add]⟩))) (rdL_ints.1 (ho3.rd (X:=0) (L:=h1+h3) (R:=h1) (hf:=⟨by simp only [hzero_add]; ac_rfl⟩))) (by omega) (by rw [List.length_map]; omega)
 rw [show aggL k=.agg #[.int .i64 k.block,.int .i64 k.txn,.int .i64 k.age,.bool k.write] from rfl] at htk
 skip
 refine W_call G G G G (zQ G G G) htk (Kept.all _) ?_
 rintro _ _ ⟨va,vw,e,al,w,ha,hw,rfl,hla,hwr,htp,rfl⟩
 refine ⟨(by repeat (first|exact trivial|exact zG G (zS G)|exact zL G G G|exact zX G (by assumption) G|exact zH G (by assumption) G|exact zH G (by assumption) (by assumption)|refine ⟨?_,?_⟩)),?_⟩
 replace hla:OwL w0 0 al va ha:=owL_locks.2 hla
 replace hwr:OwL w0 0 w vw hw:=owL_ints.2 hwr
 obtain ⟨q1,q2,q3⟩:=htp.lens
 obtain ⟨aa,ca,rfl⟩:=hla.shape
 obtain ⟨aw,cw,rfl⟩:=hwr.shape
 have eq:takeF ls k (ps.map Prp.txn)=(al,w,e):=(takeP_eq htp).symm
 have es:lockS ls d k (ps.map Prp.txn)=if e=11 then (ls,d,11) else if e=8 then (withoutL ls [k.txn],endD d [k.txn],24) else (withoutL al w,endD d w,0):=by unfold lockS; rw [eq]
 clear htk htp eq
 repeat (first|refine yJ ?_|refine yI G G G G G ?_)
 repeat (first|refine zF ?_|refine zR ?_|refine zB ?_|refine zE ?_|refine zK G G G ?_)
 refine yG G G (pv_eql G G) (fun n4=>?_) (fun n4=>?_)
 ·subst n4
  rw [es,if_pos G]
  repeat (first|refine zF ?_|refine zB ?_|refine zE ?_|refine zK G G G ?_|refine zM ?_|refine zJ G ?_)
  exact ⟨[_],X+(h3+ha+hw)+(stC b [lo,hi,ep,vb,vk,.slice a1 ls.length c1,vp,.slice a2 d.length c2,vo,vx]+h1+h2),_,⟨rfl,trivial⟩,⟨h3+ha+hw,_,_,h1,h2,rfl,hl,hd,rfl⟩,yK.out⟩
 ·rw [es,if_neg n4]
  repeat (first|refine zF ?_|refine zB ?_|refine zE ?_|refine zK G G G ?_|refine zI G ?_)
  refine yG G G (pv_eql G G) (fun n5=>?_) (fun n5=>?_)
  ·subst n5
   rw [if_pos G]
   repeat (first|refine zF ?_|refine zB ?_|refine zE ?_|refine zK G G G ?_|refine zZ G G G G G ?_|refine L_ld G G G G G ?_|refine zJ G ?_|refine L_bs (vs:=[_]) (cells:=[_]) G G G G G G (fun _=>?_))
   rename_i bt
   have hend:=end_spec w0 (intsAt bt [k.txn]) b lo hi ep vb vk vp vo vx (.slice a1 ls.length c1) (.slice a2 d.length c2) (.slice (some ⟨bt,0,none⟩) 1 1) ls d [k.txn] h1 h2 (ints_block (b:=bt) [k.txn] (by simp)) hl hd hr (by omega) n2 (by simp)
   change Spec _ _ _ _ (pt bt (.cells [.int .i64 k.txn].toArray 3 (0,0))+_) _ at hend
   refine zY G G (zQ G G G) hend ?_
   rintro _ _ ⟨E,vl',vd',h1',h2',rfl,hl',hd',rfl⟩
   repeat (first|refine zF ?_|refine zB ?_|refine zE ?_|refine zK G G G ?_|refine zM ?_)
   exact ⟨[_],X+(h3+ha+hw+E)+(stC b [lo,hi,ep,vb,vk,vl',vp,vd',vo,vx]+h1'+h2'),_,⟨rfl,trivial⟩,⟨h3+ha+hw+E,_,_,h1',h2',rfl,hl',hd',rfl⟩,yK.out⟩
  ·rw [if_neg n5]
   repeat (first|refine zF ?_|refine zB ?_|refine zE ?_|refine zK G G G ?_|refine zZ G G G G G ?_|refine zP ?_|refine zI G ?_|refine L_st G G G (c':=[_,_,_,_,_,_,_,_,_,_]) G G G G ?_)
   have hend:=end_spec w0 hw b lo hi ep vb vk vp vo vx (.slice aa al.length ca) (.slice a2 d.length c2) (.slice aw w.length cw) al d w ha h2 hwr.rdh hla hd hr (by omega) n2 (by omega)
   refine zY G G (zQ G G G) hend ?_
   rintro _ _ ⟨E,vl',vd',h1',h2',rfl,hl',hd',rfl⟩
   repeat (first|refine zF ?_|refine zB ?_|refine zE ?_|refine zK G G G ?_|refine zM ?_)
   exact ⟨[_],X+(h3+h1+hw+E)+(stC b [lo,hi,ep,vb,vk,vl',vp,vd',vo,vx]+h1'+h2'),_,⟨rfl,trivial⟩,⟨h3+h1+hw+E,_,_,h1',h2',rfl,hl',hd',rfl⟩,yK.out⟩
end
end Sl
end Go.Proofs.YtpkealohodeifaaGreat
namespace Go.Proofs.YtpkealohodeifaaGreat
open Go Go.RowKit
namespace Sl
set_option maxHeartbeats 8000000
set_option maxRecDepth 4000
set_option synthInstance.maxHeartbeats 400000
set_option synthInstance.maxSize 100000
attribute [local irreducible] Hold HoldL HoldW
def ShAt (w0:World) (X:Hp) (b:Nat) (s:Shd) (h:Hp):Prop:=∃ a1 c1 a2 c2 a3 c3 a4 c4 a5 c5 a6 c6 a7 c7 h1 h2 h3 h4 h5 h6 h7,
 OwL w0 X s.blocks (.slice a1 s.blocks.length c1) h1∧OwL w0 X s.kept (.slice a2 s.kept.length c2) h2∧OwL w0 0 s.locks (.slice a3 s.locks.length c3) h3∧OwL w0 X s.preps (.slice a4 s.preps.length c4) h4∧OwL w0 0 s.dead (.slice a5 s.dead.length c5) h5∧OwL w0 X s.outs (.slice a6 s.outs.length c6) h6∧OwL w0 X s.sess (.slice a7 s.sess.length c7) h7 ∧
 h=stC b (cellsS s (.slice a1 s.blocks.length c1) (.slice a2 s.kept.length c2) (.slice a3 s.locks.length c3) (.slice a4 s.preps.length c4) (.slice a5 s.dead.length c5) (.slice a6 s.outs.length c6) (.slice a7 s.sess.length c7))+h1+h2+h3+h4+h5+h6+h7
def OwR (w0:World) (r:Res) (v:Value) (h:Hp):Prop:=∃ a c,v=.agg [.int .i64 r.code,.slice a r.data.length c].toArray∧OwL w0 0 r.data (.slice a r.data.length c) h
theorem OwR.code (w0:World) (n:Int):OwR w0 ⟨n,[]⟩ (.agg [.int .i64 n,.slice none 0 0].toArray) 0:=⟨none,0,rfl,OwL.nil _ _⟩
def endS (s:Shd) (t:Int):Shd:={ s with locks:=withoutL s.locks [t],dead:=endD s.dead [t] }
def forgetS (s:Shd) (t:Int):Shd:={ s with dead:=s.dead.filter fun x=>!eldF t x }
def tkS (s:Shd) (k:Lk):Shd × Int:=({ s with locks:=(lockS s.locks s.dead k (s.preps.map Prp.txn)).1,dead:=(lockS s.locks s.dead k (s.preps.map Prp.txn)).2.1 },(lockS s.locks s.dead k (s.preps.map Prp.txn)).2.2)
def isPrep (s:Shd) (t:Int):Bool:=s.preps.any (isTx t)
def inR (s:Shd) (n:Int):Bool:=decide (s.lo≤n∧n<s.hi)
def readF (s:Shd) (o:Opn):Shd × Res :=
 if isPrep s o.txn=true then (s,⟨12,[]⟩) else if o.txn∈s.dead then (s,⟨24,[]⟩)
 else if o.epoch≠s.epoch∨inR s o.block=false then (endS s o.txn,⟨26,[]⟩)
 else ((tkS (forgetS s o.txn) ⟨o.block,o.txn,o.age,false⟩).1,if (tkS (forgetS s o.txn) ⟨o.block,o.txn,o.age,false⟩).2≠0 then ⟨(tkS (forgetS s o.txn) ⟨o.block,o.txn,o.age,false⟩).2,[]⟩ else ⟨0,getB s.blocks o.block⟩)
theorem isPrep_idx (s:Shd) (t:Int):isPrep s t=decide (0≤idxF (isTx t) s.preps):=(idxF_nonneg _ _).symm
theorem filter_len {α:Type} (p:α→Bool) (l:List α):(l.filter p).length≤l.length:=List.length_filter_le _ _
structure Sized (s:Shd):Prop where
 dead:s.dead.length≤900000
 preps:s.preps.length≤400000
 kept:s.kept.length≤400000
 outs:s.outs.length≤400000
 sess:s.sess.length≤400000
structure Okay (s:Shd):Prop where
 blocks:OkB s.blocks
 kept:OkK s.kept
 locks:Safe s.locks
 dead:Rises s.dead
 preps:s.preps.Pairwise fun a b=>a.txn<b.txn
abbrev opC (b:Nat) (o:Opn) (v1 v2 v3 v4:Value):Hp:=pt b (.cells (cellsO o v1 v2 v3 v4).toArray 49 (0,0))
abbrev resC (b:Nat):Hp:=pt b (.cells [.int .i64 0,.slice none 0 0].toArray 51 (0,0))
def PostS (w0:World) (X:Hp) (b:Nat) (a:Shd × Res) (r:Value) (h':Hp):Prop:=∃ E h2 hr,OwR w0 a.2 r hr∧ShAt w0 (X+E) b a.1 h2∧X+E+h2+hr=h'
theorem PostS.same {w0:World} {X h:Hp} {b:Nat} {s:Shd} {n:Int} (hs:ShAt w0 X b s h):PostS w0 X b (s,⟨n,[]⟩) (.agg [.int .i64 n,.slice none 0 0].toArray) (X+h) :=
 ⟨0,h,0,OwR.code _ _,by rw [yB]; exact hs,by simp only [yB]⟩
theorem PostS.code {w0:World} {X E h:Hp} {b:Nat} {s:Shd} {n:Int} (hs:ShAt w0 (X+E) b s h):PostS w0 X b (s,⟨n,[]⟩) (.agg [.int .i64 n,.slice none 0 0].toArray) (X+E+h) :=
 ⟨E,h,0,OwR.code _ _,hs,by simp only [yB]⟩
theorem ShAt.mono {w0:World} {X L R h:Hp} (e:L=X+R) {b:Nat} {s:Shd} (H:ShAt w0 X b s h):ShAt w0 L b s h:=by
 obtain ⟨a1,c1,a2,c2,a3,c3,a4,c4,a5,c5,a6,c6,a7,c7,h1,h2,h3,h4,h5,h6,h7,o1,o2,o3,o4,o5,o6,o7,rfl⟩:=H
 exact ⟨a1,c1,a2,c2,a3,c3,a4,c4,a5,c5,a6,c6,a7,c7,h1,h2,h3,h4,h5,h6,h7,o1.mono e,o2.mono e,o3,o4.mono e,o5,o6.mono e,o7.mono e,rfl⟩
theorem read22_spec (w0:World) (X:Hp) (b:Nat) (s:Shd) (h:Hp) (o:Opn) (e:List Value) (hs:ShAt w0 X b s h) (ho:∃ Y,Rep.rd w0 Y o e) (hz:Sized s) (hk:Okay s) :
  Spec Tryz.prog w0 155 [.pointer (some ⟨b,0,none⟩),.agg e.toArray] (X+h) (PostS w0 X b (readF s o)):=by
 obtain ⟨a1,c1,a2,c2,a3,c3,a4,c4,a5,c5,a6,c6,a7,c7,h1,h2,h3,h4,h5,h6,h7,o1,o2,o3,o4,o5,o6,o7,rfl⟩:=id hs
 obtain ⟨Y,x1,y1,x2,y2,x3,y3,x4,y4,rfl,_,_,_,_⟩:=ho
 have z1:=hk.locks.few
 have z2:=hz.dead
 have z3:=hz.preps
 have hprep:=prepared_spec w0 (X+h4) b (.int .i64 s.lo) (.int .i64 s.hi) (.int .i64 s.epoch) (.slice a1 s.blocks.length c1) (.slice a2 s.kept.length c2) (.slice a3 s.locks.length c3) (.slice a4 s.preps.length c4) (.slice a5 s.dead.length c5) (.slice a6 s.outs.length c6) (.slice a7 s.sess.length c7) s.preps o.txn o4.rd0 (by omega)
 have hcon:=containsI_spec w0 h5 (.slice a5 s.dead.length c5) s.dead o.txn (rdL_ints.1 o5.rdh) (by omega)
 refine zN Tryz.func155 G Tryz.ntmps155 Tryz.results155 G fun fr=>?_
 repeat (first|refine zF ?_|refine zR ?_|refine zB ?_|refine zE ?_|refine zK G G G ?_|refine zZ G G G G G ?_|refine L_ld G G G G G ?_|refine L_box G (c:=[_,_,_,_,_,_,_,_,_,_,_,_,_,_,_,_,_]) G G G (fun _=>?_)|refine L_alloc (c:=[_,_]) G G G (fun _=>?_))
 rename_i b3 b4
 refine zY G G (zQ G G G) hprep ?_
 rintro _ _ ⟨rfl,rfl⟩
 skip
 refine yG G G (pv_geq G G) (fun n1=>?_) (fun n1=>?_)
 ·have e1:isPrep s o.txn=true:=by rw [isPrep_idx]; exact decide_eq_true n1
  repeat (first|refine zF ?_|refine zB ?_|refine zE ?_|refine zK G G G ?_|refine zJ G ?_)
  refine zY G G (zQ G G G) (code22_spec w0 12) ?_
  rintro _ _ ⟨rfl,rfl⟩
  repeat (first|refine zE ?_|refine zM ?_|refine L_stA G (vs:=[_,_]) G G G G (c':=[_,_]) G G ?_)
  rw [show readF s o=(s,⟨12,[]⟩) by unfold readF; rw [if_pos e1]]
  exact ⟨[_],_,_,⟨⟨_,rfl,zL G G G⟩,trivial⟩,PostS.same hs,yK.out⟩
 ·have e1:¬ isPrep s o.txn=true:=by rw [isPrep_idx]; simpa using n1
  repeat (first|refine zF ?_|refine zE ?_|refine zK G G G ?_|refine zI G ?_)
  refine yC [7] [0,1,2,3,4,5,6,7,8] (by kernel_rfl) G (by kernel_rfl) (by kernel_rfl) ?_
  repeat (first|refine yI G G G G G ?_|refine yE G G G G (yA G G G) ?_|refine W_load G G G G (yF G) (zG G (zS G)) ?_)
  refine W_call G G G G (zQ G G G) hcon (Kept.all _) ?_
  rintro _ _ ⟨rfl,rfl⟩
  refine ⟨(by repeat (first|exact trivial|exact zG G (zS G)|exact zL G G G|exact zX G (by assumption) G|exact zH G (by assumption) G|exact zH G (by assumption) (by assumption)|refine ⟨?_,?_⟩)),?_⟩
  repeat (first|refine yJ ?_|refine yI G G G G G ?_)
  refine hold_cond_d G (fun n2=>?_) (fun n2=>?_)
  ·repeat (first|refine zF ?_|refine zB ?_)
   refine zY G G (zQ G G G) (code22_spec w0 24) ?_
   rintro _ _ ⟨rfl,rfl⟩
   repeat (first|refine zE ?_|refine zM ?_|refine L_stA G (vs:=[_,_]) G G G G (c':=[_,_]) G G ?_)
   rw [show readF s o=(s,⟨24,[]⟩) by unfold readF; rw [if_neg e1,if_pos n2]]
   exact ⟨[_],_,_,⟨⟨_,rfl,zL G G G⟩,trivial⟩,PostS.same hs,yK.out⟩
  ·repeat (refine zF ?_)
   refine hold_join (fun g' L'=>∃ (R:Hp),Sub g' [(0,.pointer (some ⟨b,0,none⟩)),(3,.pointer (some ⟨b3,0,none⟩)),(4,.pointer (some ⟨b4,0,none⟩)),(23,.bool (decide (o.epoch≠s.epoch∨inR s o.block=false)))] ∧
    L'=X+(stC b (cellsS s (.slice a1 s.blocks.length c1) (.slice a2 s.kept.length c2) (.slice a3 s.locks.length c3) (.slice a4 s.preps.length c4) (.slice a5 s.dead.length c5) (.slice a6 s.outs.length c6) (.slice a7 s.sess.length c7))+h1+h2+h3+h4+h5+h6+h7) +
     opC b3 o (.slice x1 o.parts.length y1) (.slice x2 o.reads.length y2) (.slice x3 o.writes.length y3) (.slice x4 o.data.length y4)+resC b4+fr+R) ?_ ?_
   ·refine yC [12] [0,1,2,3,4,5,6,7,8,9,10,11,12,13,14,15] (by kernel_rfl) G (by kernel_rfl) (by kernel_rfl) ?_
    repeat (first|refine yI G G G G G ?_|refine yE G G G G (yA G G G) ?_|refine W_load G G G G (yF G) (zG G (zS G)) ?_)
    refine W_bool G G G G (pv_neq G G) (fun n3=>?_) (fun n3=>?_)
    ·repeat (first|refine yJ ?_|refine yI G G G G G ?_|refine W_skip G G G G ?_|refine W_not G G G G ?_)
     rw [decide_eq_true (.inl (of_decide_eq_true n3))]
     exact ⟨_,(by repeat (first|exact zT _|refine zO G ?_)),yK.out⟩
    ·repeat (first|refine yI G G G G G ?_|refine yE G G G G (yA G G G) ?_|refine W_load G G G G (yF G) (zG G (zS G)) ?_)
     refine W_call G G G G (zQ G G G) (hasB_spec w0 b (.int .i64 s.epoch) (.slice a1 s.blocks.length c1) (.slice a2 s.kept.length c2) (.slice a3 s.locks.length c3) (.slice a4 s.preps.length c4) (.slice a5 s.dead.length c5) (.slice a6 s.outs.length c6) (.slice a7 s.sess.length c7) s.lo s.hi o.block) (Kept.all _) ?_
     rintro _ _ ⟨rfl,rfl⟩
     refine ⟨(by repeat (first|exact trivial|exact zG G (zS G)|exact zL G G G|exact zX G (by assumption) G|exact zH G (by assumption) G|exact zH G (by assumption) (by assumption)|refine ⟨?_,?_⟩)),?_⟩
     by_cases n4:s.lo≤o.block∧o.block<s.hi
     ·rw [decide_eq_true n4]
      repeat (first|refine yJ ?_|refine yI G G G G G ?_)
      rw [decide_eq_false (fun h=>h.elim (fun h=>of_decide_eq_false n3 h) (fun h=>by unfold inR at h; rw [decide_eq_true n4] at h; cases h))]
      exact ⟨_,(by repeat (first|exact zT _|refine zO G ?_)),yK.out⟩
     ·rw [decide_eq_false n4]
      repeat (first|refine yJ ?_|refine yI G G G G G ?_)
      rw [decide_eq_true (.inr (by unfold inR; rw [decide_eq_false n4]))]
      exact ⟨_,(by repeat (first|exact zT _|refine zO G ?_)),yK.out⟩
   ·rintro g' _ ⟨R,hsub,rfl⟩
    refine hold_env hsub ?_
    refine hold_cond_d G (fun n3=>?_) (fun n3=>?_)
    ·repeat (first|refine zF ?_|refine zB ?_|refine zK G G G ?_|refine zZ G G G G G ?_|refine L_ld G G G G G ?_|refine L_bs (vs:=[_]) (cells:=[_]) G G G G G G (fun _=>?_))
     rename_i bt
     have hend:=end_spec w0 (intsAt bt [o.txn]) b (.int .i64 s.lo) (.int .i64 s.hi) (.int .i64 s.epoch) (.slice a1 s.blocks.length c1) (.slice a2 s.kept.length c2) (.slice a4 s.preps.length c4) (.slice a6 s.outs.length c6) (.slice a7 s.sess.length c7) (.slice a3 s.locks.length c3) (.slice a5 s.dead.length c5) (.slice (some ⟨bt,0,none⟩) 1 1) s.locks s.dead [o.txn] h3 h5 (ints_block (b:=bt) [o.txn] (by simp)) o3 o5 hk.dead (by omega) (by omega) (by simp)
     change Spec _ _ _ _ (pt bt (.cells [.int .i64 o.txn].toArray 3 (0,0))+_) _ at hend
     refine zY G G (zQ G G G) hend ?_
     rintro _ _ ⟨E,vl',vd',h3',h5',rfl,o3',o5',rfl⟩
     obtain ⟨a3',c3',rfl⟩:=o3'.shape
     obtain ⟨a5',c5',rfl⟩:=o5'.shape
     repeat (first|refine zF ?_|refine zB ?_|refine zE ?_)
     refine zY G G (zQ G G G) (code22_spec w0 26) ?_
     rintro _ _ ⟨rfl,rfl⟩
     repeat (first|refine zE ?_|refine zM ?_|refine L_stA G (vs:=[_,_]) G G G G (c':=[_,_]) G G ?_)
     rw [show readF s o=(endS s o.txn,⟨26,[]⟩) by unfold readF; rw [if_neg e1,if_neg n2,if_pos n3]]
     exact ⟨[_],X+E+(stC b (cellsS s (.slice a1 s.blocks.length c1) (.slice a2 s.kept.length c2) (.slice a3' (withoutL s.locks [o.txn]).length c3') (.slice a4 s.preps.length c4) (.slice a5' (endD s.dead [o.txn]).length c5') (.slice a6 s.outs.length c6) (.slice a7 s.sess.length c7))+h1+h2+h3'+h4+h5'+h6+h7),_,⟨⟨_,rfl,zL G G G⟩,trivial⟩,
      PostS.code ⟨a1,c1,a2,c2,a3',c3',a4,c4,a5',c5',a6,c6,a7,c7,h1,h2,h3',h4,h5',h6,h7,o1.mono G,o2.mono G,o3',o4.mono G,o5',o6.mono G,o7.mono G,rfl⟩,yK.out⟩
    ·repeat (first|refine zF ?_|refine zB ?_|refine zK G G G ?_|refine zZ G G G G G ?_|refine L_ld G G G G G ?_|refine zP ?_)
     have hfg:=forget_spec w0 0 b (.int .i64 s.lo) (.int .i64 s.hi) (.int .i64 s.epoch) (.slice a1 s.blocks.length c1) (.slice a2 s.kept.length c2) (.slice a3 s.locks.length c3) (.slice a4 s.preps.length c4) (.slice a5 s.dead.length c5) (.slice a6 s.outs.length c6) (.slice a7 s.sess.length c7) s.dead h5 o.txn o5 (by omega)
     rw [hzero_add] at hfg
     refine zY G G (zQ G G G) hfg ?_
     rintro _ _ ⟨vd1,h5',rfl,o5',rfl⟩
     obtain ⟨a5',c5',rfl⟩:=o5'.shape
     rw [hzero_add]
     have hfl:=filter_len (fun x=>!eldF o.txn x) s.dead
     have htk:=take22_spec w0 (X+h4) b (.int .i64 s.lo) (.int .i64 s.hi) (.int .i64 s.epoch) (.slice a1 s.blocks.length c1) (.slice a2 s.kept.length c2) (.slice a4 s.preps.length c4) (.slice a6 s.outs.length c6) (.slice a7 s.sess.length c7) (.slice a3 s.locks.length c3) (.slice a5' (s.dead.filter fun x=>!eldF o.txn x).length c5') s.locks (s.dead.filter fun x=>!eldF o.txn x) s.preps ⟨o.block,o.txn,o.age,false⟩ h3 h5' o4.rd0 o3 o5' (List.Pairwise.filter _ hk.dead) (by omega) (by omega) (by omega)
     have et:lockS s.locks (s.dead.filter fun x=>!eldF o.txn x) ⟨o.block,o.txn,o.age,false⟩ (s.preps.map Prp.txn)=((tkS (forgetS s o.txn) ⟨o.block,o.txn,o.age,false⟩).1.locks,(tkS (forgetS s o.txn) ⟨o.block,o.txn,o.age,false⟩).1.dead,(tkS (forgetS s o.txn) ⟨o.block,o.txn,o.age,false⟩).2):=rfl
     rw [et] at htk
     have e2:readF s o=((tkS (forgetS s o.txn) ⟨o.block,o.txn,o.age,false⟩).1,if (tkS (forgetS s o.txn) ⟨o.block,o.txn,o.age,false⟩).2≠0 then ⟨(tkS (forgetS s o.txn) ⟨o.block,o.txn,o.age,false⟩).2,[]⟩ else ⟨0,getB s.blocks o.block⟩):=by unfold readF; rw [if_neg e1,if_neg n2,if_neg n3]
     have e3:(tkS (forgetS s o.txn) ⟨o.block,o.txn,o.age,false⟩).1={ s with locks:=(tkS (forgetS s o.txn) ⟨o.block,o.txn,o.age,false⟩).1.locks,dead:=(tkS (forgetS s o.txn) ⟨o.block,o.txn,o.age,false⟩).1.dead }:=rfl
     rw [e3] at e2
     generalize (tkS (forgetS s o.txn) ⟨o.block,o.txn,o.age,false⟩).1.locks=ls' at htk e2
     generalize (tkS (forgetS s o.txn) ⟨o.block,o.txn,o.age,false⟩).1.dead=d' at htk e2
     generalize (tkS (forgetS s o.txn) ⟨o.block,o.txn,o.age,false⟩).2=er at htk e2
     repeat (first|refine zF ?_|refine zB ?_|refine zE ?_|refine zK G G G ?_|refine zZ G G G G G ?_|refine L_ld G G G G G ?_|refine L_build (vs:=[_,_,_]) (cells:=[_,_,_,_]) G G G G ?_)
     refine zY G G (zQ G G G) htk ?_
     rintro _ _ ⟨E,vl',vd',h3',h6',rfl,o3',o6',rfl⟩
     obtain ⟨a3',c3',rfl⟩:=o3'.shape
     obtain ⟨a6',c6',rfl⟩:=o6'.shape
     repeat (first|refine zF ?_|refine zB ?_|refine zE ?_|refine zK G G G ?_)
     refine yG G G (pv_neq G G) (fun n5=>?_) (fun n5=>?_)
     ·repeat (first|refine zF ?_|refine zB ?_|refine zE ?_|refine zK G G G ?_|refine zJ G ?_)
      refine zY G G (zQ G G G) (code22_spec w0 er) ?_
      rintro _ _ ⟨rfl,rfl⟩
      repeat (first|refine zE ?_|refine zM ?_|refine L_stA G (vs:=[_,_]) G G G G (c':=[_,_]) G G ?_)
      rw [if_pos n5] at e2
      rw [e2]
      exact ⟨[_],X+E+(stC b (cellsS s (.slice a1 s.blocks.length c1) (.slice a2 s.kept.length c2) (.slice a3' ls'.length c3') (.slice a4 s.preps.length c4) (.slice a6' d'.length c6') (.slice a6 s.outs.length c6) (.slice a7 s.sess.length c7))+h1+h2+h3'+h4+h6'+h6+h7),_,⟨⟨_,rfl,zL G G G⟩,trivial⟩,
       PostS.code ⟨a1,c1,a2,c2,a3',c3',a4,c4,a6',c6',a6,c6,a7,c7,h1,h2,h3',h4,h6',h6,h7,o1.mono G,o2.mono G,o3',o4.mono G,o6',o6.mono G,o7.mono G,rfl⟩,yK.out⟩
     ·rw [if_neg n5] at e2
      rw [e2]
      repeat (first|refine zF ?_|refine zE ?_|refine zP ?_|refine zI G ?_)
      refine yC [7,9] [0,1,2,3,4,5,6,7,8,9] (by kernel_rfl) G (by kernel_rfl) (by kernel_rfl) ?_
      repeat (first|refine yI G G G G G ?_|refine yE G G G G (yA G G G) ?_|refine W_load G G G G (yF G) (zG G (zS G)) ?_)
      refine W_call G G G G (zQ G G G) (get19_spec w0 (X+h1) _ s.blocks o.block o1.rd0 hk.blocks) (Kept.all _) ?_
      rintro vg _ ⟨hg,og,rfl⟩
      refine ⟨(by repeat (first|exact trivial|exact zG G (zS G)|exact zL G G G|exact zX G (by assumption) G|exact zH G (by assumption) G|exact zH G (by assumption) (by assumption)|refine ⟨?_,?_⟩)),?_⟩
      obtain ⟨ag,cg,rfl⟩:=og.shape
      repeat (refine yE G G G G (pv_build (vs:=[_]) (cells:=[_,_]) G G) ?_)
      refine W_eff G G G G (ev_storeA (vs:=[_,_]) G G G G (c:=[_,_]) (Nat.le_of_ble_eq_true G) (c':=[_,_]) G) (Kept.all _) ?_
      rintro _ _ rfl
      refine ⟨(by repeat (first|exact trivial|exact zG G (zS G)|exact zL G G G|exact zX G (by assumption) G|exact zH G (by assumption) G|exact zH G (by assumption) (by assumption)|refine ⟨?_,?_⟩)),?_⟩
      repeat (refine yJ ?_)
      repeat (refine zM ?_)
      exact ⟨[_],X+E+(stC b (cellsS s (.slice a1 s.blocks.length c1) (.slice a2 s.kept.length c2) (.slice a3' ls'.length c3') (.slice a4 s.preps.length c4) (.slice a6' d'.length c6') (.slice a6 s.outs.length c6) (.slice a7 s.sess.length c7))+h1+h2+h3'+h4+h6'+h6+h7)+hg,_,⟨⟨_,rfl,zL G G G⟩,trivial⟩,
       ⟨E,_,hg,⟨ag,cg,rfl,og⟩,⟨a1,c1,a2,c2,a3',c3',a4,c4,a6',c6',a6,c6,a7,c7,h1,h2,h3',h4,h6',h6,h7,o1.mono G,o2.mono G,o3',o4.mono G,o6',o6.mono G,o7.mono G,rfl⟩,rfl⟩,yK.out⟩
end Sl
end Go.Proofs.YtpkealohodeifaaGreat
namespace Go.Proofs.YtpkealohodeifaaGreat
open Go Go.RowKit
namespace Sl
set_option maxHeartbeats 8000000
set_option maxRecDepth 4000
set_option synthInstance.maxHeartbeats 400000
set_option synthInstance.maxSize 100000
attribute [local irreducible] Hold HoldL HoldW
abbrev ptrC (c b:Nat):Hp:=pt c (.cells [.pointer (some ⟨b,0,none⟩)].toArray 140 (0,0))
section
variable (w0:World) (b:Nat) (ep vb vk vl vp vd vo vx:Value)
theorem outside1_spec (l h n:Int) (c:Nat) :
  Spec Tryz.prog w0 235 [.int .i64 n,.pointer (some ⟨c,0,none⟩)] (ptrC c b+stC b [.int .i64 l,.int .i64 h,ep,vb,vk,vl,vp,vd,vo,vx]) (fun r h'=>r=.bool (!decide (l≤n∧n<h))∧ptrC c b+stC b [.int .i64 l,.int .i64 h,ep,vb,vk,vl,vp,vd,vo,vx]=h'):=by
 refine zN Tryz.func235 G Tryz.ntmps235 Tryz.results235 G fun fr=>?_
 repeat (first|refine zF ?_|refine zB ?_|refine zE ?_|refine zK G G G ?_|refine L_ld G G G G G ?_)
 refine L_callD G G (zQ G G G) (hasB_spec w0 b ep vb vk vl vp vd vo vx l h n) (fun n1=>?_) (fun n1=>?_)
 ·repeat (first|refine zE ?_|refine zK G G G ?_|refine zM ?_)
  exact ⟨[_],_,_,⟨rfl,trivial⟩,⟨bool_no' (by rw [decide_eq_true n1]; rfl),rfl⟩,yK.out⟩
 ·repeat (first|refine zE ?_|refine zK G G G ?_|refine zM ?_)
  exact ⟨[_],_,_,⟨rfl,trivial⟩,⟨bool_yes' (by rw [decide_eq_false n1]; rfl),rfl⟩,yK.out⟩
theorem outside2_spec (l h:Int) (w:Wr) (Y:Hp) (e:List Value) (he:Rep.rd w0 Y w e) (c:Nat) :
  Spec Tryz.prog w0 236 [.agg e.toArray,.pointer (some ⟨c,0,none⟩)] (ptrC c b+stC b [.int .i64 l,.int .i64 h,ep,vb,vk,vl,vp,vd,vo,vx]) (fun r h'=>r=.bool (!decide (l≤w.block∧w.block<h))∧ptrC c b+stC b [.int .i64 l,.int .i64 h,ep,vb,vk,vl,vp,vd,vo,vx]=h'):=by
 obtain ⟨a1,c1,rfl,_⟩:=he
 refine zN Tryz.func236 G Tryz.ntmps236 Tryz.results236 G fun fr=>?_
 repeat (first|refine zF ?_|refine zB ?_|refine zE ?_|refine zK G G G ?_|refine zZ G G G G G ?_|refine L_ld G G G G G ?_|refine L_box G (c:=[_,_]) G G G (fun _=>?_))
 refine L_callD G G (zQ G G G) (hasB_spec w0 b ep vb vk vl vp vd vo vx l h w.block) (fun n1=>?_) (fun n1=>?_)
 ·repeat (first|refine zE ?_|refine zK G G G ?_|refine zM ?_)
  exact ⟨[_],_,_,⟨rfl,trivial⟩,⟨bool_no' (by rw [decide_eq_true n1]; rfl),rfl⟩,yK.out⟩
 ·repeat (first|refine zE ?_|refine zK G G G ?_|refine zM ?_)
  exact ⟨[_],_,_,⟨rfl,trivial⟩,⟨bool_yes' (by rw [decide_eq_false n1]; rfl),rfl⟩,yK.out⟩
def outF (s:Shd) (o:Opn):Bool:=o.reads.any (fun n=>!inR s n)||o.writes.any (fun w=>!inR s w.block)
theorem outside_spec (s:Shd) (o:Opn) (X:Hp) (e:List Value) (ho:Rep.rd w0 X o e) (n1:o.reads.length≤1000000) (n2:o.writes.length≤1000000) :
  Spec Tryz.prog w0 196 [.pointer (some ⟨b,0,none⟩),.agg e.toArray] (X+stC b [.int .i64 s.lo,.int .i64 s.hi,ep,vb,vk,vl,vp,vd,vo,vx]) (fun r h'=>r=.bool (outF s o)∧X+stC b [.int .i64 s.lo,.int .i64 s.hi,ep,vb,vk,vl,vp,vd,vo,vx]=h'):=by
 obtain ⟨x1,y1,x2,y2,x3,y3,x4,y4,rfl,r1,r2,r3,r4⟩:=ho
 refine zN Tryz.func196 G Tryz.ntmps196 Tryz.results196 G fun fr=>?_
 repeat (first|refine zF ?_|refine zB ?_|refine zE ?_|refine zK G G G ?_|refine zZ G G G G G ?_|refine L_ld G G G G G ?_|refine L_box G (c:=[_]) G G G (fun _=>?_)|refine L_box G (c:=[_,_,_,_,_,_,_,_,_,_,_,_,_,_,_,_,_]) G G G (fun _=>?_)|refine L_clo G G G ?_)
 rename_i b2 b3
 have hc1:=containsFuncI_spec w0 (X+(ptrC b2 b+stC b [.int .i64 s.lo,.int .i64 s.hi,ep,vb,vk,vl,vp,vd,vo,vx])) (.slice x2 o.reads.length y2) o.reads 235 [.pointer (some ⟨b2,0,none⟩)] (fun n=>!inR s n) (r2.frame) (by omega) (fun x hx=>Spec.frameL (hadd_comm _ _) (outside1_spec w0 b ep vb vk vl vp vd vo vx s.lo s.hi x b2))
 have hc2:=containsFuncWr_spec w0 (X+(ptrC b2 b+stC b [.int .i64 s.lo,.int .i64 s.hi,ep,vb,vk,vl,vp,vd,vo,vx])) (.slice x3 o.writes.length y3) o.writes 236 [.pointer (some ⟨b2,0,none⟩)] (fun w=>!inR s w.block) (r3.frame) (by omega) (fun Y x e hx he=>Spec.frameL (hadd_comm _ _) (outside2_spec w0 b ep vb vk vl vp vd vo vx s.lo s.hi x Y e he b2))
 refine zY G G (zQ G G G) hc1 ?_
 rintro _ _ ⟨rfl,rfl⟩
 cases h1:o.reads.any (fun n=>!inR s n)
 ·repeat (first|refine zK G G G ?_|refine zZ G G G G G ?_|refine L_ld G G G G G ?_|refine L_clo G G G ?_)
  refine zY G G (zQ G G G) hc2 ?_
  rintro _ _ ⟨rfl,rfl⟩
  repeat (first|refine zE ?_|refine zK G G G ?_|refine zM ?_)
  exact ⟨[_],_,_,⟨rfl,trivial⟩,⟨by unfold outF; rw [h1]; rfl,rfl⟩,yK.out⟩
 ·repeat (first|refine zE ?_|refine zK G G G ?_|refine L_skip G G ?_|refine zM ?_)
  exact ⟨[_],_,_,⟨rfl,trivial⟩,⟨by unfold outF; rw [h1]; rfl,rfl⟩,yK.out⟩
theorem prepare1_spec (X:Hp) (lo hi:Value) (ls:List Lk) (o:Opn) (v1 v2 v3 v4:Value) (n:Int) (c c2:Nat) (hl:RdL w0 X vl ls) (hz:ls.length≤1000000) :
  Spec Tryz.prog w0 195 [.int .i64 n,.pointer (some ⟨c,0,none⟩),.pointer (some ⟨c2,0,none⟩)] (X+ptrC c b+opC c2 o v1 v2 v3 v4+stC b [lo,hi,ep,vb,vk,vl,vp,vd,vo,vx])
   (fun r h'=>r=.bool (!hasL ls o.txn n false)∧X+ptrC c b+opC c2 o v1 v2 v3 v4+stC b [lo,hi,ep,vb,vk,vl,vp,vd,vo,vx]=h'):=by
 have hhas:=has20_spec w0 X vl ls o.txn n false (rdL_locks.1 hl) (by omega)
 obtain ⟨a,cc,rfl⟩:=hl.shape
 refine zN Tryz.func195 G Tryz.ntmps195 Tryz.results195 G fun fr=>?_
 repeat (first|refine zF ?_|refine zB ?_|refine zE ?_|refine zK G G G ?_)
 refine yC [8] [0,1,2,3,4,5,6,7,8,9,10] (by kernel_rfl) G (by kernel_rfl) (by kernel_rfl) ?_
 repeat (first|refine yI G G G G G ?_|refine yE G G G G (yA G G G) ?_|refine W_load G G G G (yF G) (zG G (zS G)) ?_)
 refine W_call G G G G (zQ G G G) hhas (Kept.all _) ?_
 rintro _ _ ⟨rfl,rfl⟩
 refine ⟨(by repeat (first|exact trivial|exact zG G (zS G)|exact zL G G G|exact zX G (by assumption) G|exact zH G (by assumption) G|exact zH G (by assumption) (by assumption)|refine ⟨?_,?_⟩)),?_⟩
 cases hh:hasL ls o.txn n false
 ·repeat (first|refine yJ ?_|refine yI G G G G G ?_)
  repeat (refine zM ?_)
  exact ⟨[_],_,_,⟨rfl,trivial⟩,⟨rfl,rfl⟩,yK.out⟩
 ·repeat (first|refine yJ ?_|refine yI G G G G G ?_)
  repeat (refine zM ?_)
  exact ⟨[_],_,_,⟨rfl,trivial⟩,⟨rfl,rfl⟩,yK.out⟩
end
theorem prepare2_spec (w0:World) (p q:Prp) (e:List Value) (x5 x6:Value) (Y:Hp) (he:Rep.rd w0 Y p e) :
  Spec Tryz.prog w0 199 [.agg e.toArray,.agg [.int .i64 q.txn,.int .i64 q.age,.int .i64 q.snap,.int .i64 q.lo,.int .i64 q.hi,x5,x6].toArray] 0 (fun r h'=>r=.int .i64 (cmpI p.txn q.txn)∧0=h'):=by
 obtain ⟨a1,c1,a2,c2,rfl,_,_⟩:=he
 refine zN Tryz.func199 G Tryz.ntmps199 Tryz.results199 G fun fr=>?_
 repeat (first|refine zF ?_|refine zB ?_|refine zE ?_|refine zK G G G ?_|refine zZ G G G G G ?_|refine L_ld G G G G G ?_|refine L_box G (c:=[_,_,_,_,_,_,_]) G G G (fun _=>?_))
 refine zY G G (zQ G G G) (compare_spec w0 p.txn q.txn) ?_
 rintro _ _ ⟨rfl,rfl⟩
 repeat (first|refine zE ?_|refine zK G G G ?_|refine zM ?_)
 exact ⟨[_],_,_,⟨rfl,trivial⟩,⟨rfl,rfl⟩,yK.out⟩
end Sl
end Go.Proofs.YtpkealohodeifaaGreat
namespace Go.Proofs.YtpkealohodeifaaGreat
open Go Go.RowKit
namespace Sl
set_option maxHeartbeats 16000000
set_option maxRecDepth 4000
set_option synthInstance.maxHeartbeats 400000
set_option synthInstance.maxSize 100000
attribute [local irreducible] Hold HoldL HoldW
def tkStep (x:Shd × Int) (k:Lk):Shd × Int:=if x.2≠0 then x else tkS x.1 k
def tkAll (s:Shd) (ks:List Lk):Shd × Int:=ks.foldl tkStep (s,0)
theorem endS_spec (w0:World) (X:Hp) (b bt:Nat) (s:Shd) (h:Hp) (t:Int) (hs:ShAt w0 X b s h) (hk:s.locks.length≤1000000∧Rises s.dead) (hz:s.dead.length≤1000000) :
  Spec Tryz.prog w0 191 [.pointer (some ⟨b,0,none⟩),.slice (some ⟨bt,0,none⟩) 1 1] (pt bt (.cells [.int .i64 t].toArray 3 (0,0))+h) (fun r h'=>∃ E h2,r=.tuple #[]∧ShAt w0 X b (endS s t) h2∧pt bt (.cells [.int .i64 t].toArray 3 (0,0))+E+h2=h'):=by
 obtain ⟨a1,c1,a2,c2,a3,c3,a4,c4,a5,c5,a6,c6,a7,c7,h1,h2,h3,h4,h5,h6,h7,o1,o2,o3,o4,o5,o6,o7,rfl⟩:=hs
 have z1:=hk.1
 have hend:=end_spec w0 (intsAt bt [t]) b (.int .i64 s.lo) (.int .i64 s.hi) (.int .i64 s.epoch) (.slice a1 s.blocks.length c1) (.slice a2 s.kept.length c2) (.slice a4 s.preps.length c4) (.slice a6 s.outs.length c6) (.slice a7 s.sess.length c7) (.slice a3 s.locks.length c3) (.slice a5 s.dead.length c5) (.slice (some ⟨bt,0,none⟩) 1 1) s.locks s.dead [t] h3 h5 (ints_block (b:=bt) [t] (by simp)) o3 o5 hk.2 (by omega) (by omega) (by simp)
 change Spec _ _ _ _ (pt bt (.cells [.int .i64 t].toArray 3 (0,0))+_) _ at hend
 refine hend.into (R:=h1+h2+h4+h6+h7) (by ac_rfl) ?_
 rintro _ _ ⟨E,vl',vd',h3',h5',rfl,o3',o5',rfl⟩
 obtain ⟨a3',c3',rfl⟩:=o3'.shape
 obtain ⟨a5',c5',rfl⟩:=o5'.shape
 refine ⟨E,_,rfl,⟨a1,c1,a2,c2,a3',c3',a4,c4,a5',c5',a6,c6,a7,c7,h1,h2,h3',h4,h5',h6,h7,o1,o2,o3',o4,o5',o6,o7,rfl⟩,?_⟩
 show _+_+(stC b [.int .i64 s.lo,.int .i64 s.hi,.int .i64 s.epoch,.slice a1 s.blocks.length c1,.slice a2 s.kept.length c2,.slice a3' (withoutL s.locks [t]).length c3',.slice a4 s.preps.length c4,.slice a5' (endD s.dead [t]).length c5',.slice a6 s.outs.length c6,.slice a7 s.sess.length c7]+h1+h2+h3'+h4+h5'+h6+h7)=_
 ac_rfl
theorem tkStep_bad {x:Shd × Int} (h:x.2≠0):∀ ks:List Lk,ks.foldl tkStep x=x
 | []=>rfl
 | k::ks=>by
  show ks.foldl tkStep (tkStep x k)=x
  rw [show tkStep x k=x by unfold tkStep; rw [if_pos h]]
  exact tkStep_bad h ks
theorem tkAll_one {s s':Shd} {ks:List Lk} (h:tkAll s ks=(s',0)) (k:Lk):tkAll s (ks++[k])=tkS s' k:=by
 unfold tkAll at *
 rw [List.foldl_append,h]
 show tkStep (s',0) k=_
 unfold tkStep; rw [if_neg (by simp)]
theorem tkAll_bad {s:Shd} {ks:List Lk} (h:(tkAll s ks).2≠0) (ms:List Lk):tkAll s (ks++ms)=tkAll s ks:=by
 unfold tkAll at *
 rw [List.foldl_append,tkStep_bad h]
def ldS (s:Shd) (ls:List Lk) (d:List Int):Shd:={ s with locks:=ls,dead:=d }
theorem lockS_safe {ls:List Lk} (h:Safe ls) (d:List Int) (k:Lk) (fixed:List Int):Safe (lockS ls d k fixed).1:=by
 unfold lockS
 split
 ·exact h
 ·split
  ·exact h.without _
  ·refine Safe.without ?_ _
   exact take_safe (takeF_P ls k fixed) h
theorem lockS_dead {ls:List Lk} (d:List Int) (k:Lk) (fixed:List Int):(lockS ls d k fixed).2.1.length≤d.length+ls.length+1:=by
 have h:=(takeF_P ls k fixed).lens
 unfold lockS
 split
 ·simp only; omega
 ·split
  ·have:=endD_len [k.txn] d
   simp only [List.length_singleton] at this ⊢; omega
  ·have:=endD_len (takeF ls k fixed).2.1 d
   simp only; omega
theorem lockS_rises {ls:List Lk} {d:List Int} (h:Rises d) (k:Lk) (fixed:List Int):Rises (lockS ls d k fixed).2.1:=by
 unfold lockS
 split
 ·exact h
 ·split
  ·exact endD_rises _ h
  ·exact endD_rises _ h
def writeLks (o:Opn):List Lk:=o.writes.map fun w=>⟨w.block,o.txn,o.age,true⟩
def readLks (o:Opn) (lo:Int) (n:Nat):List Lk:=(List.range n).map fun (j:Nat)=>⟨lo+(j:Int),o.txn,o.age,false⟩
def covLo (s:Shd) (o:Opn):Int:=max o.lo s.lo
def covHi (s:Shd) (o:Opn):Int:=max (min o.hi s.hi) (max o.lo s.lo)
def covN (s:Shd) (o:Opn):Nat:=if 0<o.snap then (covHi s o - covLo s o).toNat else 0
def lostF (s:Shd) (o:Opn):Bool:=o.reads.any fun n=>!hasL s.locks o.txn n false
def fullF (s:Shd) (o:Opn):Prop:=0<o.snap∧64<((s.kept.length+sumMine s.locks s.preps:Nat):Int)+covHi s o - covLo s o
instance (s:Shd) (o:Opn):Decidable (fullF s o):=by unfold fullF; infer_instance
def prepOf (o:Opn):Prp:=⟨o.txn,o.age,o.snap,o.lo,o.hi,o.parts,o.writes⟩
def insP (ps:List Prp) (p:Prp):List Prp:=ps.filter (fun x=>decide (x.txn<p.txn))++p::ps.filter (fun x=>decide (p.txn<x.txn))
def prepLks (s:Shd) (o:Opn):List Lk:=writeLks o++readLks o (covLo s o) (covN s o)
def prepareF (s:Shd) (o:Opn):Shd × Res :=
 if isPrep s o.txn=true then (s,⟨0,[]⟩) else if o.txn∈s.dead then (s,⟨24,[]⟩)
 else if o.epoch≠s.epoch∨outF s o=true then (endS s o.txn,⟨26,[]⟩)
 else if lostF s o=true∨fullF s o then (endS s o.txn,⟨24,[]⟩)
 else if (tkAll (forgetS s o.txn) (prepLks s o)).2≠0 then ((tkAll (forgetS s o.txn) (prepLks s o)).1,⟨(tkAll (forgetS s o.txn) (prepLks s o)).2,[]⟩)
 else ({ (tkAll (forgetS s o.txn) (prepLks s o)).1 with preps:=insP s.preps (prepOf o) },⟨0,[]⟩)
def TkOk (s:Shd) (o:Opn) (ks:List Lk) (n:Nat) (ls:List Lk) (d:List Int):Prop:=tkAll (forgetS s o.txn) ks=(ldS s ls d,0)∧Safe ls∧Rises d∧d.length≤s.dead.length+65*n
theorem TkOk.step {s:Shd} {o:Opn} {ks:List Lk} {n:Nat} {ls:List Lk} {d:List Int} (h:TkOk s o ks n ls d) (k:Lk) (he:(lockS ls d k (s.preps.map Prp.txn)).2.2=0) :
  TkOk s o (ks++[k]) (n+1) (lockS ls d k (s.preps.map Prp.txn)).1 (lockS ls d k (s.preps.map Prp.txn)).2.1:=by
 obtain ⟨h1,h2,h3,h4⟩:=h
 refine ⟨?_,lockS_safe h2 _ _ _,lockS_rises h3 _ _,?_⟩
 ·rw [tkAll_one h1]
  show (_,(lockS ls d k (s.preps.map Prp.txn)).2.2)=_
  rw [he]; rfl
 ·have:=lockS_dead (ls:=ls) d k (s.preps.map Prp.txn)
  have:=h2.few
  omega
theorem TkOk.bad {s:Shd} {o:Opn} {ks:List Lk} {n:Nat} {ls:List Lk} {d:List Int} (h:TkOk s o ks n ls d) (k:Lk) (he:(lockS ls d k (s.preps.map Prp.txn)).2.2≠0) (ms:List Lk) :
  tkAll (forgetS s o.txn) (ks++[k]++ms)=(ldS s (lockS ls d k (s.preps.map Prp.txn)).1 (lockS ls d k (s.preps.map Prp.txn)).2.1,(lockS ls d k (s.preps.map Prp.txn)).2.2):=by
 have e:=tkAll_one h.1 k
 rw [tkAll_bad (by rw [e]; exact he),e]
 rfl
theorem TkOk.stepAt {s:Shd} {o:Opn} {l:List Lk} {k:Nat} {ls:List Lk} {d:List Int} (h:TkOk s o (l.take k) k ls d) {x:Lk} (hx:l[k]?=some x) (he:(lockS ls d x (s.preps.map Prp.txn)).2.2=0) :
  TkOk s o (l.take (k+1)) (k+1) (lockS ls d x (s.preps.map Prp.txn)).1 (lockS ls d x (s.preps.map Prp.txn)).2.1:=by
 rw [List.take_add_one,hx]
 exact h.step x he
theorem TkOk.badAt {s:Shd} {o:Opn} {l:List Lk} {k:Nat} {ls:List Lk} {d:List Int} (h:TkOk s o (l.take k) k ls d) {x:Lk} (hx:l[k]?=some x) (he:(lockS ls d x (s.preps.map Prp.txn)).2.2≠0) :
  tkAll (forgetS s o.txn) l=(ldS s (lockS ls d x (s.preps.map Prp.txn)).1 (lockS ls d x (s.preps.map Prp.txn)).2.1,(lockS ls d x (s.preps.map Prp.txn)).2.2):=by
 have e:l=l.take k++[x]++l.drop (k+1):=by
  obtain ⟨hk,rfl⟩:=List.getElem?_eq_some_iff.1 hx
  rw [List.append_assoc,List.singleton_append,← List.drop_eq_getElem_cons hk,List.take_append_drop]
 have:=h.bad x he (l.drop (k+1))
 rwa [← e] at this
theorem prepLks_w (s:Shd) (o:Opn) {k:Nat} (h:k<o.writes.length):(prepLks s o)[k]?=some ⟨o.writes[k].block,o.txn,o.age,true⟩:=by
 unfold prepLks writeLks
 rw [List.getElem?_append_left (by simpa using h),List.getElem?_map,List.getElem?_eq_getElem h]
 rfl
theorem prepLks_r (s:Shd) (o:Opn) {j:Nat} (h:j<covN s o):(prepLks s o)[o.writes.length+j]?=some ⟨covLo s o+(j:Int),o.txn,o.age,false⟩:=by
 unfold prepLks writeLks readLks
 rw [List.getElem?_append_right (by simp),List.length_map,Nat.add_sub_cancel_left,List.getElem?_map,List.getElem?_range h]
 rfl
theorem prepLks_len (s:Shd) (o:Opn):(prepLks s o).length=o.writes.length+covN s o:=by simp [prepLks,writeLks,readLks]
theorem ShAt.ld {w0:World} {X h1 h2 h3 h4 h5 h6 h7:Hp} {b:Nat} {s:Shd} {ls:List Lk} {d:List Int} {a1 a2 a3 a4 a5 a6 a7:Option Addr} {c1 c2 c3 c4 c5 c6 c7:Nat}
  (o1:OwL w0 X s.blocks (.slice a1 s.blocks.length c1) h1) (o2:OwL w0 X s.kept (.slice a2 s.kept.length c2) h2) (o3:OwL w0 0 ls (.slice a3 ls.length c3) h3) (o4:OwL w0 X s.preps (.slice a4 s.preps.length c4) h4) (o5:OwL w0 0 d (.slice a5 d.length c5) h5) (o6:OwL w0 X s.outs (.slice a6 s.outs.length c6) h6) (o7:OwL w0 X s.sess (.slice a7 s.sess.length c7) h7) :
  ShAt w0 X b (ldS s ls d) (stC b (cellsS s (.slice a1 s.blocks.length c1) (.slice a2 s.kept.length c2) (.slice a3 ls.length c3) (.slice a4 s.preps.length c4) (.slice a5 d.length c5) (.slice a6 s.outs.length c6) (.slice a7 s.sess.length c7))+h1+h2+h3+h4+h5+h6+h7) :=
 ⟨a1,c1,a2,c2,a3,c3,a4,c4,a5,c5,a6,c6,a7,c7,h1,h2,h3,h4,h5,h6,h7,o1,o2,o3,o4,o5,o6,o7,rfl⟩
def fallQ (p:Env→Hp→Prop) (Q:Post):Post
 | .normal,g,L=>p g L
 | e,g,L=>Q e g L
theorem hold_fall {P:Program} {n:Nat} {w0:World} {c:Code} {Q:Post} {g:Env} {L:Hp} (p:Env→Hp→Prop) (h1:Hold P n w0 c (fallQ p Q) g L) (h2:∀ g' L',p g' L'→Q .normal g' L'):Hold P n w0 c Q g L :=
 hold_mono (fun e g' L' h=>by cases e<;>first|exact h2 _ _ h|exact h) h1
theorem cmpI_neg {a b:Int}:(cmpI a b<0)=(a - b<0):=by
 unfold cmpI
 apply propext
 split
 ·omega
 ·split<;>omega
abbrev spanC (b:Nat) (lo hi:Int):Hp:=pt b (.cells [.int .i64 lo,.int .i64 hi].toArray 70 (0,0))
theorem prepare22_spec (w0:World) (X:Hp) (b:Nat) (s:Shd) (h:Hp) (o:Opn) (e:List Value) (hs:ShAt w0 X b s h) (ho:Rep.rd w0 X o e) (hz:Sized s) (hk:Okay s) (hsp:0≤o.lo∧o.lo≤o.hi∧o.hi≤64) (hrg:0≤s.lo∧s.lo≤64∧0≤s.hi∧s.hi≤64)
  (hr:o.reads.length≤1000) (hw:o.writes.length≤1000) :
  Spec Tryz.prog w0 156 [.pointer (some ⟨b,0,none⟩),.agg e.toArray] (X+h) (PostS w0 X b (prepareF s o)):=by
 have hout:=fun vb vk vl vp vd vo vx=>outside_spec w0 b (.int .i64 s.epoch) vb vk vl vp vd vo vx s o X e ho (by omega) (by omega)
 obtain ⟨a1,c1,a2,c2,a3,c3,a4,c4,a5,c5,a6,c6,a7,c7,h1,h2,h3,h4,h5,h6,h7,o1,o2,o3,o4,o5,o6,o7,rfl⟩:=id hs
 obtain ⟨x1,y1,x2,y2,x3,y3,x4,y4,rfl,r1,r2,r3,r4⟩:=id ho
 replace hout:=hout (.slice a1 s.blocks.length c1) (.slice a2 s.kept.length c2) (.slice a3 s.locks.length c3) (.slice a4 s.preps.length c4) (.slice a5 s.dead.length c5) (.slice a6 s.outs.length c6) (.slice a7 s.sess.length c7)
 have z1:=hk.locks.few
 have z2:=hz.dead
 have z3:=hz.preps
 have z4:=hz.kept
 have hcov:=covered_spec w0 b (.int .i64 s.epoch) (.slice a1 s.blocks.length c1) (.slice a2 s.kept.length c2) (.slice a3 s.locks.length c3) (.slice a4 s.preps.length c4) (.slice a5 s.dead.length c5) (.slice a6 s.outs.length c6) (.slice a7 s.sess.length c7) s.lo s.hi o.lo o.hi
 have hprep:=prepared_spec w0 (X+h4) b (.int .i64 s.lo) (.int .i64 s.hi) (.int .i64 s.epoch) (.slice a1 s.blocks.length c1) (.slice a2 s.kept.length c2) (.slice a3 s.locks.length c3) (.slice a4 s.preps.length c4) (.slice a5 s.dead.length c5) (.slice a6 s.outs.length c6) (.slice a7 s.sess.length c7) s.preps o.txn o4.rd0 (by omega)
 have hcon:=containsI_spec w0 h5 (.slice a5 s.dead.length c5) s.dead o.txn (rdL_ints.1 o5.rdh) (by omega)
 refine zN Tryz.func156 G Tryz.ntmps156 Tryz.results156 G fun fr=>?_
 repeat (first|refine zF ?_|refine zB ?_|refine zE ?_|refine zZ G G G G G ?_|refine L_ld G G G G G ?_|refine L_box G (c:=[_]) G G G (fun _=>?_)|refine L_box G (c:=[_,_,_,_,_,_,_,_,_,_,_,_,_,_,_,_,_]) G G G (fun _=>?_)|refine L_alloc (c:=[_,_]) G G G (fun _=>?_))
 rename_i b2 b3 b4
 refine zY G G (zQ G G G) hcov ?_
 rintro _ _ ⟨rfl,rfl⟩
 rw [show max o.lo s.lo=covLo s o from rfl,show max (min o.hi s.hi) (covLo s o)=covHi s o from rfl]
 repeat (first|refine zF ?_|refine zR ?_|refine zB ?_|refine zE ?_|refine zK G G G ?_|refine zZ G G G G G ?_|refine L_ld G G G G G ?_|refine L_stA G (vs:=[_,_]) G G G G (c':=[_,_]) G G ?_|refine L_alloc (c:=[_,_]) G G G (fun _=>?_)|refine L_clo G G G ?_)
 rename_i b5
 refine zY G G (zQ G G G) hprep ?_
 rintro _ _ ⟨rfl,rfl⟩
 skip
 refine yG G G (pv_geq G G) (fun n1=>?_) (fun n1=>?_)
 ·have e1:isPrep s o.txn=true:=by rw [isPrep_idx]; exact decide_eq_true n1
  repeat (first|refine zF ?_|refine zB ?_|refine zE ?_|refine zK G G G ?_|refine zJ G ?_)
  refine zY G G (zQ G G G) (code22_spec w0 0) ?_
  rintro _ _ ⟨rfl,rfl⟩
  repeat (first|refine zE ?_|refine zM ?_|refine L_stA G (vs:=[_,_]) G G G G (c':=[_,_]) G G ?_)
  rw [show prepareF s o=(s,⟨0,[]⟩) by unfold prepareF; rw [if_pos e1]]
  exact ⟨[_],_,_,⟨⟨_,rfl,zL G G G⟩,trivial⟩,PostS.same hs,yK.out⟩
 ·have e1:¬ isPrep s o.txn=true:=by rw [isPrep_idx]; simpa using n1
  repeat (first|refine zF ?_|refine zE ?_|refine zK G G G ?_|refine zI G ?_)
  refine yC [7] [0,1,2,3,4,5,6,7,8] (by kernel_rfl) G (by kernel_rfl) (by kernel_rfl) ?_
  repeat (first|refine yI G G G G G ?_|refine yE G G G G (yA G G G) ?_|refine W_load G G G G (yF G) (zG G (zS G)) ?_)
  refine W_call G G G G (zQ G G G) hcon (Kept.all _) ?_
  rintro _ _ ⟨rfl,rfl⟩
  refine ⟨(by repeat (first|exact trivial|exact zG G (zS G)|exact zL G G G|exact zX G (by assumption) G|exact zH G (by assumption) G|exact zH G (by assumption) (by assumption)|refine ⟨?_,?_⟩)),?_⟩
  repeat (first|refine yJ ?_|refine yI G G G G G ?_)
  refine hold_cond_d G (fun n2=>?_) (fun n2=>?_)
  ·repeat (first|refine zF ?_|refine zB ?_)
   refine zY G G (zQ G G G) (code22_spec w0 24) ?_
   rintro _ _ ⟨rfl,rfl⟩
   repeat (first|refine zE ?_|refine zM ?_|refine L_stA G (vs:=[_,_]) G G G G (c':=[_,_]) G G ?_)
   rw [show prepareF s o=(s,⟨24,[]⟩) by unfold prepareF; rw [if_neg e1,if_pos n2]]
   exact ⟨[_],_,_,⟨⟨_,rfl,zL G G G⟩,trivial⟩,PostS.same hs,yK.out⟩
  ·repeat (refine zF ?_)
   refine hold_join (fun g' L'=>∃ (R:Hp),Sub g' [(2,.pointer (some ⟨b2,0,none⟩)),(3,.pointer (some ⟨b3,0,none⟩)),(4,.pointer (some ⟨b4,0,none⟩)),(5,.pointer (some ⟨b5,0,none⟩)),(6,.func (.func 195) #[] #[.pointer (some ⟨b2,0,none⟩),.pointer (some ⟨b3,0,none⟩)]),(39,.bool (decide (o.epoch≠s.epoch∨outF s o=true)))] ∧
    L'=X+(stC b (cellsS s (.slice a1 s.blocks.length c1) (.slice a2 s.kept.length c2) (.slice a3 s.locks.length c3) (.slice a4 s.preps.length c4) (.slice a5 s.dead.length c5) (.slice a6 s.outs.length c6) (.slice a7 s.sess.length c7))+h1+h2+h3+h4+h5+h6+h7)+ptrC b2 b +
     opC b3 o (.slice x1 o.parts.length y1) (.slice x2 o.reads.length y2) (.slice x3 o.writes.length y3) (.slice x4 o.data.length y4)+resC b4+spanC b5 (covLo s o) (covHi s o)+fr+R) ?_ ?_
   ·refine yC [11] [0,1,2,3,4,5,6,7,8,9,10,11,12,13] (by kernel_rfl) G (by kernel_rfl) (by kernel_rfl) ?_
    repeat (first|refine yI G G G G G ?_|refine yE G G G G (yA G G G) ?_|refine W_load G G G G (yF G) (zG G (zS G)) ?_)
    refine W_bool G G G G (pv_neq G G) (fun n3=>?_) (fun n3=>?_)
    ·repeat (first|refine yJ ?_|refine yI G G G G G ?_|refine W_skip G G G G ?_|refine W_not G G G G ?_)
     rw [decide_eq_true (.inl (of_decide_eq_true n3))]
     exact ⟨_,(by repeat (first|exact zT _|refine zO G ?_)),yK.out⟩
    ·repeat (first|refine yI G G G G G ?_|refine W_load G G G G (yF G) (zG G (zS G)) ?_|refine W_load G G G G (yF G) (zL (vs:=[_,_,_,_,_,_,_,_,_,_,_,_,_,_,_,_,_]) G G G) ?_)
     refine W_call G G G G (zQ G G G) hout (Kept.all _) ?_
     rintro _ _ ⟨rfl,rfl⟩
     refine ⟨(by repeat (first|exact trivial|exact zG G (zS G)|exact zL G G G|exact zX G (by assumption) G|exact zH G (by assumption) G|exact zH G (by assumption) (by assumption)|refine ⟨?_,?_⟩)),?_⟩
     repeat (first|refine yJ ?_|refine yI G G G G G ?_)
     have hd:outF s o=decide (o.epoch≠s.epoch∨outF s o=true):=by
      cases h:outF s o
      ·exact (decide_eq_false (fun h'=>h'.elim (of_decide_eq_false n3) (fun h''=>Bool.noConfusion h''))).symm
      ·exact (decide_eq_true (.inr G)).symm
     rw [← hd]
     exact ⟨_,(by repeat (first|exact zT _|refine zO G ?_)),yK.out⟩
   ·rintro g' _ ⟨R,hsub,rfl⟩
    refine hold_env hsub ?_
    refine hold_cond_d G (fun n3=>?_) (fun n3=>?_)
    ·repeat (first|refine zF ?_|refine zB ?_|refine zZ G G G G G ?_|refine L_ld G G G G G ?_|refine L_bs (vs:=[_]) (cells:=[_]) G G G G G G (fun _=>?_))
     rename_i bt
     refine zY G G (zQ G G G) (endS_spec w0 X b bt s _ o.txn hs ⟨by omega,hk.dead⟩ (by omega)) ?_
     rintro _ _ ⟨E,h2',rfl,hs',rfl⟩
     repeat (first|refine zF ?_|refine zB ?_|refine zE ?_)
     refine zY G G (zQ G G G) (code22_spec w0 26) ?_
     rintro _ _ ⟨rfl,rfl⟩
     repeat (first|refine zE ?_|refine zM ?_|refine L_stA G (vs:=[_,_]) G G G G (c':=[_,_]) G G ?_)
     rw [show prepareF s o=(endS s o.txn,⟨26,[]⟩) by unfold prepareF; rw [if_neg e1,if_neg n2,if_pos n3]]
     exact ⟨[_],X+E+h2',_,⟨⟨_,rfl,zL G G G⟩,trivial⟩,PostS.code (hs'.mono G),yK.out⟩
    ·repeat (first|refine zF ?_|refine zB ?_|refine zK G G G ?_|refine zZ G G G G G ?_|refine L_ld G G G G G ?_)
     have hc1:=containsFuncI_spec w0 (X+(h3+ptrC b2 b+opC b3 o (.slice x1 o.parts.length y1) (.slice x2 o.reads.length y2) (.slice x3 o.writes.length y3) (.slice x4 o.data.length y4)+stC b (cellsS s (.slice a1 s.blocks.length c1) (.slice a2 s.kept.length c2) (.slice a3 s.locks.length c3) (.slice a4 s.preps.length c4) (.slice a5 s.dead.length c5) (.slice a6 s.outs.length c6) (.slice a7 s.sess.length c7)))) (.slice x2 o.reads.length y2) o.reads 195 [.pointer (some ⟨b2,0,none⟩),.pointer (some ⟨b3,0,none⟩)] (fun n=>!hasL s.locks o.txn n false) (r2.frame) (by omega)
      (fun x hx=>Spec.frameL (hadd_comm _ _) (prepare1_spec w0 b (.int .i64 s.epoch) (.slice a1 s.blocks.length c1) (.slice a2 s.kept.length c2) (.slice a3 s.locks.length c3) (.slice a4 s.preps.length c4) (.slice a5 s.dead.length c5) (.slice a6 s.outs.length c6) (.slice a7 s.sess.length c7) h3 (.int .i64 s.lo) (.int .i64 s.hi) s.locks o (.slice x1 o.parts.length y1) (.slice x2 o.reads.length y2) (.slice x3 o.writes.length y3) (.slice x4 o.data.length y4) x b2 b3 o3.rdh (by omega)))
     refine zY G G (zQ G G G) hc1 ?_
     rintro _ _ ⟨rfl,rfl⟩
     have hkn:=keptN_spec w0 (X+(h2+h3+h4)) b (.int .i64 s.lo) (.int .i64 s.hi) (.int .i64 s.epoch) (.slice a1 s.blocks.length c1) (.slice a2 s.kept.length c2) (.slice a3 s.locks.length c3) (.slice a4 s.preps.length c4) (.slice a5 s.dead.length c5) (.slice a6 s.outs.length c6) (.slice a7 s.sess.length c7) s.locks s.preps s.kept (o3.rd (L:=X+(h2+h3+h4)) (R:=X+h2+h4) (hf:=⟨by simp only [hzero_add]; ac_rfl⟩)) (o4.rd (R:=h2+h3) (hf:=⟨by ac_rfl⟩)) (o2.rd (R:=h3+h4) (hf:=⟨by ac_rfl⟩)) (by omega) (by omega) (by omega)
     have hsm:=sumMine_len s.locks s.preps
     have hcv:0≤covLo s o∧covLo s o≤covHi s o∧covHi s o≤64:=by unfold covLo covHi; omega
     clear hc1 hcon hprep hcov hout
     repeat (first|refine zE ?_|refine zK G G G ?_)
     refine hold_join (fun g' L'=>∃ (R:Hp),Sub g' [(2,.pointer (some ⟨b2,0,none⟩)),(3,.pointer (some ⟨b3,0,none⟩)),(4,.pointer (some ⟨b4,0,none⟩)),(5,.pointer (some ⟨b5,0,none⟩)),(59,.bool (decide (lostF s o=true∨fullF s o)))] ∧
      L'=X+(stC b (cellsS s (.slice a1 s.blocks.length c1) (.slice a2 s.kept.length c2) (.slice a3 s.locks.length c3) (.slice a4 s.preps.length c4) (.slice a5 s.dead.length c5) (.slice a6 s.outs.length c6) (.slice a7 s.sess.length c7))+h1+h2+h3+h4+h5+h6+h7)+ptrC b2 b +
       opC b3 o (.slice x1 o.parts.length y1) (.slice x2 o.reads.length y2) (.slice x3 o.writes.length y3) (.slice x4 o.data.length y4)+resC b4+spanC b5 (covLo s o) (covHi s o)+fr+R) ?_ ?_
     ·cases hlost:o.reads.any fun n=>!hasL s.locks o.txn n false
      ·repeat (refine zI G ?_)
       refine yC [5] [0,1,2,3,4,6,7,9,10,5,8,11,12,13,14] (by kernel_rfl) G (by kernel_rfl) (by kernel_rfl) ?_
       repeat (first|refine yE G G G G (yA G G G) ?_|refine W_load G G G G (yF G) (zG G (zS G)) ?_)
       refine W_bool G G G G (pv_gtr G G) (fun n4=>?_) (fun n4=>?_)
       ·repeat (first|refine yI G G G G G ?_|refine yE G G G G (yA G G G) ?_|refine W_load G G G G (yF G) (zG G (zS G)) ?_)
        refine W_call G G G G (zQ G G G) hkn (Kept.all _) ?_
        rintro _ _ ⟨E,rfl,rfl⟩
        refine ⟨(by repeat (first|exact trivial|exact zG G (zS G)|exact zL G G G|exact zX G (by assumption) G|exact zH G (by assumption) G|exact zH G (by assumption) (by assumption)|refine ⟨?_,?_⟩)),?_⟩
        generalize hm:s.kept.length+sumMine s.locks s.preps=m at *
        have hf:fullF s o↔64<(m:Int)+covHi s o - covLo s o:=by unfold fullF; rw [hm]; exact ⟨fun h=>h.2,fun h=>⟨of_decide_eq_true n4,h⟩⟩
        refine yE G G G G (pv_add G G (by omega) (by omega)) ?_
        refine yE G G G G (pv_sub G G (by omega) (by omega)) ?_
        refine yE G G G G (pv_gtr G G) ?_
        repeat (first|refine yJ ?_|refine yI G G G G G ?_)
        rw [show decide (64<(m:Int)+covHi s o - covLo s o)=decide (lostF s o=true∨fullF s o) from decide_eq_decide.2 ⟨fun h=>.inr (hf.2 h),fun h=>h.elim (fun h=>by rw [show lostF s o=false from hlost] at h; cases h) hf.1⟩]
        exact ⟨_,(by repeat (first|exact zT _|refine zO G ?_)),yK.out⟩
       ·repeat (first|refine yJ ?_|refine yI G G G G G ?_|refine W_skip G G G G ?_|refine W_not G G G G ?_)
        rw [decide_eq_false (fun h=>h.elim (fun h=>by rw [show lostF s o=false from hlost] at h; cases h) (fun h=>of_decide_eq_false n4 h.1))]
        exact ⟨_,(by repeat (first|exact zT _|refine zO G ?_)),yK.out⟩
      ·repeat (first|refine zP ?_|refine zJ G ?_)
       rw [decide_eq_true (.inl hlost)]
       exact ⟨_,(by repeat (first|exact zT _|refine zO G ?_)),yK.out⟩
     ·rintro g' _ ⟨R2,hsub2,rfl⟩
      refine hold_env hsub2 ?_
      clear hsub hsub2 hkn
      refine hold_cond_d G (fun n4=>?_) (fun n4=>?_)
      ·repeat (first|refine zF ?_|refine zB ?_|refine zZ G G G G G ?_|refine L_ld G G G G G ?_|refine L_bs (vs:=[_]) (cells:=[_]) G G G G G G (fun _=>?_))
       rename_i bt
       refine zY G G (zQ G G G) (endS_spec w0 X b bt s _ o.txn hs ⟨by omega,hk.dead⟩ (by omega)) ?_
       rintro _ _ ⟨E,h2',rfl,hs',rfl⟩
       repeat (first|refine zF ?_|refine zB ?_|refine zE ?_)
       refine zY G G (zQ G G G) (code22_spec w0 24) ?_
       rintro _ _ ⟨rfl,rfl⟩
       repeat (first|refine zE ?_|refine zM ?_|refine L_stA G (vs:=[_,_]) G G G G (c':=[_,_]) G G ?_)
       rw [show prepareF s o=(endS s o.txn,⟨24,[]⟩) by unfold prepareF; rw [if_neg e1,if_neg n2,if_neg n3,if_pos n4]]
       exact ⟨[_],X+E+h2',_,⟨⟨_,rfl,zL G G G⟩,trivial⟩,PostS.code (hs'.mono G),yK.out⟩
      ·have e2:prepareF s o=if (tkAll (forgetS s o.txn) (prepLks s o)).2≠0 then ((tkAll (forgetS s o.txn) (prepLks s o)).1,⟨(tkAll (forgetS s o.txn) (prepLks s o)).2,[]⟩)
         else ({ (tkAll (forgetS s o.txn) (prepLks s o)).1 with preps:=insP s.preps (prepOf o) },⟨0,[]⟩):=by unfold prepareF; rw [if_neg e1,if_neg n2,if_neg n3,if_neg n4]
       repeat (first|refine zF ?_|refine zB ?_|refine zZ G G G G G ?_|refine L_ld G G G G G ?_|refine zP ?_)
       have hfg:=forget_spec w0 0 b (.int .i64 s.lo) (.int .i64 s.hi) (.int .i64 s.epoch) (.slice a1 s.blocks.length c1) (.slice a2 s.kept.length c2) (.slice a3 s.locks.length c3) (.slice a4 s.preps.length c4) (.slice a5 s.dead.length c5) (.slice a6 s.outs.length c6) (.slice a7 s.sess.length c7) s.dead h5 o.txn o5 (by omega)
       rw [hzero_add] at hfg
       refine zY G G (zQ G G G) hfg ?_
       rintro _ _ ⟨vd1,h5',rfl,o5',rfl⟩
       obtain ⟨a5',c5',rfl⟩:=o5'.shape
       rw [hzero_add]
       have t0:TkOk s o ((prepLks s o).take 0) 0 s.locks (s.dead.filter fun x=>!eldF o.txn x):=⟨rfl,hk.locks,List.Pairwise.filter _ hk.dead,by have:=filter_len (fun x=>!eldF o.txn x) s.dead; omega⟩
       clear hfg
       repeat (first|refine zF ?_|refine zR ?_|refine zB ?_|refine zE ?_|refine zK G G G ?_|refine zZ G G G G G ?_|refine L_ld G G G G G ?_|refine L_len G G G ?_)
       refine hold_count o.writes.length (fun k g L=>∃ (ls:List Lk) (d:List Int) (a3':Option Addr) (c3':Nat) (a5':Option Addr) (c5':Nat) (h3' h5' R:Hp),g=[(2,.pointer (some ⟨b2,0,none⟩)),(3,.pointer (some ⟨b3,0,none⟩)),(4,.pointer (some ⟨b4,0,none⟩)),(5,.pointer (some ⟨b5,0,none⟩)),(89,.slice x3 o.writes.length y3),(90,.int .i64 o.writes.length),(91,.int .i64 k)] ∧
        TkOk s o ((prepLks s o).take k) k ls d∧OwL w0 0 ls (.slice a3' ls.length c3') h3'∧OwL w0 0 d (.slice a5' d.length c5') h5'∧L=X+(stC b (cellsS s (.slice a1 s.blocks.length c1) (.slice a2 s.kept.length c2) (.slice a3' ls.length c3') (.slice a4 s.preps.length c4) (.slice a5' d.length c5') (.slice a6 s.outs.length c6) (.slice a7 s.sess.length c7))+h1+h2+h3'+h4+h5'+h6+h7)+ptrC b2 b+opC b3 o (.slice x1 o.parts.length y1) (.slice x2 o.reads.length y2) (.slice x3 o.writes.length y3) (.slice x4 o.data.length y4)+resC b4+spanC b5 (covLo s o) (covHi s o)+fr+R) _
        ⟨s.locks,_,a3,c3,a5',c5',h3,h5',_,rfl,t0,o3,o5',yK.out⟩ (by repeat (first|exact zT _|refine zO G ?_)) ?_
       clear o3 o5 o5' t0 hs a3 c3 a5 c5 a5' c5' h3 h5 h5'
       rintro k g L hkk ⟨ls,d,a3,c3,a5,c5,h3,h5,R,rfl,htk,o3,o5,rfl⟩
       have q1:=htk.2.1.few
       have q2:=htk.2.2.2
       have q3:=htk.2.2.1
       repeat (first|refine zF ?_|refine zB ?_)
       refine yG G G (pv_lss G G) (fun n5=>?_) (fun n5=>?_)
       ·have hx:k<o.writes.length:=by omega
        have hel:=prepLks_w s o hx
        obtain ⟨bw,ow,rfl,ew,⟨aw,cw,rfl,_⟩,hat⟩:=r3.at hx
        have htake:=take22_spec w0 (X+h4) b (.int .i64 s.lo) (.int .i64 s.hi) (.int .i64 s.epoch) (.slice a1 s.blocks.length c1) (.slice a2 s.kept.length c2) (.slice a4 s.preps.length c4) (.slice a6 s.outs.length c6) (.slice a7 s.sess.length c7) (.slice a3 ls.length c3) (.slice a5 d.length c5) ls d s.preps ⟨o.writes[k].block,o.txn,o.age,true⟩ h3 h5 o4.rd0 o3 o5 q3 (by omega) (by omega) (by omega)
        have hstep:=fun he=>htk.stepAt hel he
        have hbad:=fun he=>htk.badAt hel he
        generalize lockS ls d ⟨o.writes[k].block,o.txn,o.age,true⟩ (s.preps.map Prp.txn)=lk at htake hstep hbad
        obtain ⟨ls2,d2,er⟩:=lk
        simp only at htake hstep hbad
        repeat (first|refine zF ?_|refine zR ?_|refine zB ?_|refine zE ?_|refine zZ G G G G G ?_|refine L_ld G G G G G ?_|refine zP ?_|refine zJ G ?_|refine L_idx G G (by omega) G G ?_|refine L_atA G (by assumption) G G G G ?_|refine L_build (vs:=[_,_,_,_]) (cells:=[_,_,_,_]) G G G G ?_|refine L_stA G (vs:=[_,_]) G G G G (c':=[_,_]) G G ?_|refine L_alloc (c:=[_,_]) G G G (fun _=>?_))
        refine zY G G (zQ G G G) htake ?_
        rintro _ _ ⟨E,vl',vd',h3',h5',rfl,o3',o5',rfl⟩
        obtain ⟨a3',c3',rfl⟩:=o3'.shape
        obtain ⟨a5',c5',rfl⟩:=o5'.shape
        repeat (first|refine zF ?_|refine zB ?_|refine zE ?_|refine zK G G G ?_)
        refine yG G G (pv_neq G G) (fun n6=>?_) (fun n6=>?_)
        ·repeat (first|refine zF ?_|refine zB ?_|refine zE ?_|refine zK G G G ?_|refine zJ G ?_)
         refine zY G G (zQ G G G) (code22_spec w0 er) ?_
         rintro _ _ ⟨rfl,rfl⟩
         repeat (first|refine zE ?_|refine zM ?_|refine L_stA G (vs:=[_,_]) G G G G (c':=[_,_]) G G ?_)
         rw [show prepareF s o=(ldS s ls2 d2,⟨er,[]⟩) by rw [e2,hbad n6,if_pos n6]]
         exact ⟨[_],X+E+(stC b (cellsS s (.slice a1 s.blocks.length c1) (.slice a2 s.kept.length c2) (.slice a3' ls2.length c3') (.slice a4 s.preps.length c4) (.slice a5' d2.length c5') (.slice a6 s.outs.length c6) (.slice a7 s.sess.length c7))+h1+h2+h3'+h4+h5'+h6+h7),_,⟨⟨_,rfl,zL G G G⟩,trivial⟩,PostS.code (ShAt.ld (o1.mono G) (o2.mono G) o3' (o4.mono G) o5' (o6.mono G) (o7.mono G)),yK.out⟩
        ·repeat (first|refine zB ?_|refine zE ?_|refine zK G G G ?_|refine zP ?_|refine zI G ?_|refine L_add G G (by omega) (by omega) G G ?_)
         exact ⟨hx,_,(by repeat (first|exact zT _|refine zO G ?_)),ls2,d2,a3',c3',a5',c5',h3',h5',_,rfl,hstep (by simpa using n6),o3',o5',yK.out⟩
       ·have hkw:k=o.writes.length:=by omega
        subst hkw
        repeat (first|refine zF ?_|refine yD ?_|refine zB ?_|refine zE ?_|refine zK G G G ?_|refine zZ G G G G G ?_|refine L_ld G G G G G ?_|refine zI G ?_)
        refine hold_fall (fun g' L'=>∃ (ls:List Lk) (d:List Int) (a3':Option Addr) (c3':Nat) (a5':Option Addr) (c5':Nat) (h3' h5' R:Hp),Sub g' [(2,.pointer (some ⟨b2,0,none⟩)),(3,.pointer (some ⟨b3,0,none⟩)),(4,.pointer (some ⟨b4,0,none⟩)),(5,.pointer (some ⟨b5,0,none⟩))] ∧
         TkOk s o ((prepLks s o).take (o.writes.length+covN s o)) (o.writes.length+covN s o) ls d∧OwL w0 0 ls (.slice a3' ls.length c3') h3'∧OwL w0 0 d (.slice a5' d.length c5') h5'∧L'=X+(stC b (cellsS s (.slice a1 s.blocks.length c1) (.slice a2 s.kept.length c2) (.slice a3' ls.length c3') (.slice a4 s.preps.length c4) (.slice a5' d.length c5') (.slice a6 s.outs.length c6) (.slice a7 s.sess.length c7))+h1+h2+h3'+h4+h5'+h6+h7)+ptrC b2 b+opC b3 o (.slice x1 o.parts.length y1) (.slice x2 o.reads.length y2) (.slice x3 o.writes.length y3) (.slice x4 o.data.length y4)+resC b4+spanC b5 (covLo s o) (covHi s o)+fr+R) ?_ ?_
        ·repeat (refine zR ?_)
         refine hold_count (covN s o) (fun j g L=>∃ (ls:List Lk) (d:List Int) (a3':Option Addr) (c3':Nat) (a5':Option Addr) (c5':Nat) (h3' h5' R:Hp) (z:Int),g=[(2,.pointer (some ⟨b2,0,none⟩)),(3,.pointer (some ⟨b3,0,none⟩)),(4,.pointer (some ⟨b4,0,none⟩)),(5,.pointer (some ⟨b5,0,none⟩)),(10,.int .i64 z)]∧z=covLo s o+(j:Int) ∧
          TkOk s o ((prepLks s o).take (o.writes.length+j)) (o.writes.length+j) ls d∧OwL w0 0 ls (.slice a3' ls.length c3') h3'∧OwL w0 0 d (.slice a5' d.length c5') h5'∧L=X+(stC b (cellsS s (.slice a1 s.blocks.length c1) (.slice a2 s.kept.length c2) (.slice a3' ls.length c3') (.slice a4 s.preps.length c4) (.slice a5' d.length c5') (.slice a6 s.outs.length c6) (.slice a7 s.sess.length c7))+h1+h2+h3'+h4+h5'+h6+h7)+ptrC b2 b+opC b3 o (.slice x1 o.parts.length y1) (.slice x2 o.reads.length y2) (.slice x3 o.writes.length y3) (.slice x4 o.data.length y4)+resC b4+spanC b5 (covLo s o) (covHi s o)+fr+R) _
          ⟨ls,d,a3,c3,a5,c5,h3,h5,_,covLo s o,rfl,by simp,htk,o3,o5,yK.out⟩ (by repeat (first|exact zT _|refine zO G ?_)) ?_
         clear o3 o5 htk q1 q2 q3 a3 c3 a5 c5 h3 h5 ls d R
         rintro j g L hj ⟨ls,d,a3,c3,a5,c5,h3,h5,R,z,rfl,hz,htk,o3,o5,rfl⟩
         have q1:=htk.2.1.few
         have q2:=htk.2.2.2
         have q3:=htk.2.2.1
         have hcn:(0<o.snap→(covN s o:Int)=covHi s o - covLo s o)∧(¬ 0<o.snap→covN s o=0):=by
          unfold covN
          constructor
          ·intro h; rw [if_pos h]; omega
          ·intro h; rw [if_neg h]
         repeat (first|refine zF ?_|refine zB ?_|refine zZ G G G G G ?_|refine L_ld G G G G G ?_)
         refine yG G G (pv_gtr G G) (fun n6=>?_) (fun n6=>?_)
         ·repeat (first|refine zK G G G ?_|refine zZ G G G G G ?_|refine L_ld G G G G G ?_)
          refine yG G G (pv_lss G G) (fun n7=>?_) (fun n7=>?_)
          ·have hx:j<covN s o:=by have:=hcn.1 n6; omega
           have hel:=prepLks_r s o hx
           rw [← hz] at hel
           have htake:=take22_spec w0 (X+h4) b (.int .i64 s.lo) (.int .i64 s.hi) (.int .i64 s.epoch) (.slice a1 s.blocks.length c1) (.slice a2 s.kept.length c2) (.slice a4 s.preps.length c4) (.slice a6 s.outs.length c6) (.slice a7 s.sess.length c7) (.slice a3 ls.length c3) (.slice a5 d.length c5) ls d s.preps ⟨z,o.txn,o.age,false⟩ h3 h5 o4.rd0 o3 o5 q3 (by omega) (by omega) (by omega)
           have hstep:=fun he=>htk.stepAt hel he
           have hbad:=fun he=>htk.badAt hel he
           generalize lockS ls d ⟨z,o.txn,o.age,false⟩ (s.preps.map Prp.txn)=lk at htake hstep hbad
           obtain ⟨ls2,d2,er⟩:=lk
           simp only at htake hstep hbad
           repeat (first|refine zF ?_|refine zR ?_|refine zB ?_|refine zE ?_|refine zK G G G ?_|refine zZ G G G G G ?_|refine L_ld G G G G G ?_|refine zP ?_|refine zJ G ?_|refine L_build (vs:=[_,_,_]) (cells:=[_,_,_,_]) G G G G ?_)
           refine zY G G (zQ G G G) htake ?_
           rintro _ _ ⟨E,vl',vd',h3',h5',rfl,o3',o5',rfl⟩
           obtain ⟨a3',c3',rfl⟩:=o3'.shape
           obtain ⟨a5',c5',rfl⟩:=o5'.shape
           repeat (first|refine zF ?_|refine zB ?_|refine zE ?_|refine zK G G G ?_)
           refine yG G G (pv_neq G G) (fun n8=>?_) (fun n8=>?_)
           ·repeat (first|refine zF ?_|refine zB ?_|refine zE ?_|refine zK G G G ?_|refine zJ G ?_)
            refine zY G G (zQ G G G) (code22_spec w0 er) ?_
            rintro _ _ ⟨rfl,rfl⟩
            repeat (first|refine zE ?_|refine zM ?_|refine L_stA G (vs:=[_,_]) G G G G (c':=[_,_]) G G ?_)
            rw [show prepareF s o=(ldS s ls2 d2,⟨er,[]⟩) by rw [e2,hbad n8,if_pos n8]]
            exact ⟨[_],X+E+(stC b (cellsS s (.slice a1 s.blocks.length c1) (.slice a2 s.kept.length c2) (.slice a3' ls2.length c3') (.slice a4 s.preps.length c4) (.slice a5' d2.length c5') (.slice a6 s.outs.length c6) (.slice a7 s.sess.length c7))+h1+h2+h3'+h4+h5'+h6+h7),_,⟨⟨_,rfl,zL G G G⟩,trivial⟩,PostS.code (ShAt.ld (o1.mono G) (o2.mono G) o3' (o4.mono G) o5' (o6.mono G) (o7.mono G)),yK.out⟩
           ·repeat (first|refine zB ?_|refine zE ?_|refine zK G G G ?_|refine zP ?_|refine zI G ?_|refine L_add G G (by omega) (by omega) G G ?_)
            exact ⟨hx,_,(by repeat (first|exact zT _|refine zO G ?_)),ls2,d2,a3',c3',a5',c5',h3',h5',_,z+1,rfl,by omega,hstep (by simpa using n8),o3',o5',yK.out⟩
          ·have hjn:j=covN s o:=by have:=hcn.1 n6; omega
           subst hjn
           repeat (first|refine yD ?_|refine zE ?_|refine zK G G G ?_|refine zI G ?_)
           exact ⟨ls,d,a3,c3,a5,c5,h3,h5,_,(by repeat (first|exact zT _|refine zO G ?_)),htk,o3,o5,yK.out⟩
         ·have hjn:j=covN s o:=by have:=hcn.2 n6; omega
          subst hjn
          repeat (first|refine yD ?_|refine zE ?_|refine zK G G G ?_|refine L_skip G G ?_|refine zI G ?_)
          exact ⟨ls,d,a3,c3,a5,c5,h3,h5,_,(by repeat (first|exact zT _|refine zO G ?_)),htk,o3,o5,yK.out⟩
        ·clear o3 o5 htk q1 q2 q3 a3 c3 a5 c5 h3 h5 ls d R
         rintro g' _ ⟨ls,d,a3,c3,a5,c5,h3,h5,R,hsub,htk,o3,o5,rfl⟩
         refine hold_env hsub ?_
         clear hsub g'
         have e3:prepareF s o=({ ldS s ls d with preps:=insP s.preps (prepOf o) },⟨0,[]⟩):=by
          rw [e2]
          have:=htk.1
          rw [List.take_of_length_le (by rw [prepLks_len]; exact Nat.le_refl _)] at this
          rw [this,if_neg (by simp)]
         rw [e3]
         repeat (first|refine zF ?_|refine zB ?_|refine zE ?_|refine zZ G G G G G ?_|refine L_ld G G G G G ?_|refine L_build (vs:=[_,_,_,_,_,_,_]) (cells:=[_,_,_,_,_,_,_]) G G G G ?_|refine L_stA G (vs:=[_,_,_,_,_,_,_]) G G G G (c':=[_,_,_,_,_,_,_]) G G ?_|refine L_alloc (c:=[_,_,_,_,_,_,_]) G G G (fun _=>?_))
         rename_i bp
         have hbs:=binarySearchFuncPrp_spec w0 (X+h4) (.slice a4 s.preps.length c4) (.int .i64 o.txn) (.int .i64 o.age) (.int .i64 o.snap) (.int .i64 o.lo) (.int .i64 o.hi) (.slice x1 o.parts.length y1) (.slice x3 o.writes.length y3) s.preps 199 [] (fun p=>cmpI p.txn o.txn) o4.rd0 (by omega)
          (fun Y x e hx he=>Spec.frameL (hzero_add _).symm (prepare2_spec w0 x (prepOf o) e (.slice x1 o.parts.length y1) (.slice x3 o.writes.length y3) Y he))
         refine yC [6] [0,1,2,3,4,5,6,7,8,9,10,11] (by kernel_rfl) G (by kernel_rfl) (by kernel_rfl) ?_
         repeat (first|refine yI G G G G G ?_|refine yE G G G G (yA G G G) ?_|refine W_load G G G G (yF G) (zG G (zS G)) ?_|refine W_load G G G G (yF G) (zL (vs:=[_,_,_,_,_,_,_]) G G G) ?_)
         refine W_call G G G G (zQ G G G) hbs (Kept.all _) ?_
         rintro _ _ ⟨i,rfl,hb,rfl⟩
         refine ⟨(by repeat (first|exact trivial|exact zG G (zS G)|exact zL G G G|exact zX G (by assumption) G|exact zH G (by assumption) G|exact zH G (by assumption) (by assumption)|refine ⟨?_,?_⟩)),?_⟩
         repeat (first|refine yJ ?_|refine yI G G G G G ?_)
         have hnp:∀ p∈s.preps,p.txn≠o.txn:=by
          intro p hp ht
          apply e1
          exact List.any_eq_true.2 ⟨p,hp,decide_eq_true ht⟩
         simp only [cmpI_neg] at hb
         have hfd:foundAt (fun p:Prp=>p.txn - o.txn) s.preps i=false:=by
          unfold foundAt
          split
          ·rename_i hi
           exact decide_eq_false (show ¬ (s.preps[i].txn - o.txn=0) by have:=hnp _ (List.getElem_mem hi); omega)
          ·rfl
         obtain ⟨m1,m2,_⟩:=bs_missed (key:=Prp.txn) hk.preps hb hfd
         have hbi:=hb.1
         obtain ⟨es,w1,w2⟩:=id o4
         have hnew:Rep.rd w0 X (prepOf o) [.int .i64 o.txn,.int .i64 o.age,.int .i64 o.snap,.int .i64 o.lo,.int .i64 o.hi,.slice x1 o.parts.length y1,.slice x3 o.writes.length y3]:=⟨x1,y1,x3,y3,rfl,r1,r3⟩
         have hel:=w2.length
         repeat (refine zF ?_)
         refine yC [8,9,13] [0,1,2,3,4,5,6,7,8,9,10,11,12,13] (by kernel_rfl) G (by kernel_rfl) (by kernel_rfl) ?_
         repeat (first|refine yI G G G G G ?_|refine yE G G G G (yA G G G) ?_|refine W_load G G G G (yF G) (zG G (zS G)) ?_|refine W_load G G G G (yF G) (zL (vs:=[_,_,_,_,_,_,_]) G G G) ?_)
         refine W_eff G G G G (ev_buildSlice (vs:=[_]) (cells:=[_,_,_,_,_,_,_]) G G G G) (Kept.all _) ?_
         rintro _ _ ⟨bn,rfl,rfl⟩
         refine ⟨(by repeat (first|exact trivial|exact zG G (zS G)|exact zL G G G|exact zX G (by assumption) G|exact zH G (by assumption) G|exact zH G (by assumption) (by assumption)|refine ⟨?_,?_⟩)),?_⟩
         refine W_call G G G G (zQ G G G) (insertAtPrp_spec w0 es _ h4 bn i _ w1 (by omega) w2.ones (Rep.len hnew) (Rep.one hnew) (by omega)) (Kept.all _) ?_
         rintro vp2 h4' hrow
         refine ⟨(by repeat (first|exact trivial|exact zG G (zS G)|exact zL G G G|exact zX G (by assumption) G|exact zH G (by assumption) G|exact zH G (by assumption) (by assumption)|refine ⟨?_,?_⟩)),?_⟩
         have o4':OwL w0 X (insP s.preps (prepOf o)) vp2 h4':=by
          have hc:All2 (Rep.rd w0 X) (prepOf o::s.preps.drop i) (_::es.drop i):=⟨hnew,w2.drop i⟩
          have:=(w2.take i).append hc
          rw [m1,m2] at this
          exact ⟨_,hrow,this⟩
         obtain ⟨a4',c4',rfl⟩:=o4'.shape
         repeat (first|refine yI G G G G G ?_|refine yE G G G G (yA G G G) ?_)
         refine W_eff (W':=?wk1) G G G G (ev_store G G G G G (c':=[_,_,_,_,_,_,_,_,_,_]) G) ?wkk1 ?wrest1
         case wkk1=>repeat (first|exact Kept.nil|refine Kept.drop (by kernel_rfl) ?_|refine Kept.keep ?_)
         rintro _ _ rfl
         refine ⟨(by repeat (first|exact trivial|exact zG G (zS G)|exact zL G G G|exact zX G (by assumption) G|exact zH G (by assumption) G|exact zH G (by assumption) (by assumption)|refine ⟨?_,?_⟩)),?_⟩
         repeat (refine yJ ?_)
         repeat (first|refine zF ?_|refine zB ?_)
         refine zY G G (zQ G G G) (code22_spec w0 0) ?_
         rintro _ _ ⟨rfl,rfl⟩
         repeat (first|refine zE ?_|refine zM ?_|refine L_stA G (vs:=[_,_]) G G G G (c':=[_,_]) G G ?_)
         exact ⟨[_],X+(stC b (cellsS s (.slice a1 s.blocks.length c1) (.slice a2 s.kept.length c2) (.slice a3 ls.length c3) (.slice a4' (insP s.preps (prepOf o)).length c4') (.slice a5 d.length c5) (.slice a6 s.outs.length c6) (.slice a7 s.sess.length c7))+h1+h2+h3+h4'+h5+h6+h7),_,⟨⟨_,rfl,zL G G G⟩,trivial⟩,
          PostS.same (s:={ ldS s ls d with preps:=insP s.preps (prepOf o) }) ⟨a1,c1,a2,c2,a3,c3,a4',c4',a5,c5,a6,c6,a7,c7,h1,h2,h3,h4',h5,h6,h7,o1,o2,o3,o4',o5,o6,o7,rfl⟩,yK.out⟩
end Sl
end Go.Proofs.YtpkealohodeifaaGreat
namespace Go.Proofs.YtpkealohodeifaaGreat
open Go Go.RowKit
namespace Sl
section
variable {β:Type}
structure Ordr (lt:β→β→Prop):Prop where
 asym:∀ {a b},lt a b→¬ lt b a
 le:∀ {a b c},¬ lt b a→¬ lt c b→¬ lt c a
def Srt (lt:β→β→Prop) (l:List β):Prop:=l.Pairwise fun a b=>¬ lt b a
variable {lt:β→β→Prop}
theorem srt_one (x:β):Srt lt [x]:=List.pairwise_singleton _ _
theorem srt_app {l m:List β}:Srt lt (l++m)↔Srt lt l∧Srt lt m∧∀ a∈l,∀ b∈m,¬ lt b a:=List.pairwise_append
theorem srt_take {l:List β} (h:Srt lt l) (n:Nat):Srt lt (l.take n):=h.sublist (List.take_sublist _ _)
theorem srt_drop {l:List β} (h:Srt lt l) (n:Nat):Srt lt (l.drop n):=h.sublist (List.drop_sublist _ _)
theorem srt_idx {l:List β} (h:Srt lt l) {i j:Nat} (hj:j<l.length) (hij:i<j):¬ lt l[j] (l[i]'(by omega)):=(List.pairwise_iff_getElem.1 h) i j (by omega) hj hij
theorem Ordr.irr (o:Ordr lt) (a:β):¬ lt a a:=fun h=>o.asym h h
theorem srt_idx' (o:Ordr lt) {l:List β} (h:Srt lt l) {i j:Nat} (hj:j<l.length) (hij:i≤j):¬ lt l[j] (l[i]'(by omega)):=by
 rcases Nat.lt_or_eq_of_le hij with h1|h1
 ·exact srt_idx h hj h1
 ·subst h1; exact o.irr _
theorem srt_mid {l m:List β} {x:β} (hs:Srt lt (l++m)) (h1:∀ a∈l,¬ lt x a) (h2:∀ b∈m,¬ lt b x):Srt lt (l++x::m):=by
 obtain ⟨s1,s2,s3⟩:=srt_app.1 hs
 refine srt_app.2 ⟨s1,List.pairwise_cons.2 ⟨h2,s2⟩,?_⟩
 intro a ha b hb
 rcases List.mem_cons.1 hb with rfl|hb
 ·exact h1 a ha
 ·exact s3 a ha b hb
theorem all_le_last (o:Ordr lt) {l:List β} (hs:Srt lt l) {x:β} (h:∀ h:0<l.length,¬ lt x (l[l.length - 1])):∀ a∈l,¬ lt x a:=by
 intro a ha
 obtain ⟨i,hi,rfl⟩:=List.getElem_of_mem ha
 exact o.le (srt_idx' o hs (j:=l.length - 1) (by omega) (by omega)) (h (by omega))
theorem head_le_all (o:Ordr lt) {l:List β} (hs:Srt lt l) {x:β} (h:∀ h:0<l.length,¬ lt l[0] x):∀ a∈l,¬ lt a x:=by
 intro a ha
 obtain ⟨i,hi,rfl⟩:=List.getElem_of_mem ha
 exact o.le (h (by omega)) (srt_idx' o hs hi (Nat.zero_le _))
theorem cut_lo (o:Ordr lt) {U V:List β} (hu:Srt lt U) (hv:Srt lt V) {i j:Nat} (hi:i≤U.length) (hj:j≤V.length)
  (h:i=0∨j=V.length∨∃ (h1:i - 1<U.length) (h2:j<V.length),¬ lt V[j] U[i - 1]):∀ a∈U.take i,∀ b∈V.drop j,¬ lt b a:=by
 rcases h with rfl|rfl|⟨h1,h2,h3⟩
 ·simp
 ·simp
 ·rcases Nat.eq_zero_or_pos i with rfl|hpos
  ·simp
  intro a ha b hb
  refine o.le (b:=V[j]) ?_ (head_le_all o (srt_drop hv j) (fun h0=>by simpa using o.irr _) b hb)
  refine all_le_last o (srt_take hu i) (fun h0=>?_) a ha
  have e:(U.take i)[(U.take i).length - 1]'(by omega)=U[i - 1]:=by
   rw [List.getElem_take]
   congr 1
   rw [List.length_take]; omega
  rw [e]; exact h3
theorem cut_hi (o:Ordr lt) {U V:List β} (hu:Srt lt U) (hv:Srt lt V) {i j:Nat} (hi:i≤U.length) (hj:j≤V.length)
  (h:j=0∨i=U.length∨∃ (h1:j - 1<V.length) (h2:i<U.length),lt V[j - 1] U[i]):∀ a∈V.take j,∀ b∈U.drop i,¬ lt b a:=by
 refine cut_lo o hv hu hj hi ?_
 rcases h with h|h|⟨h1,h2,h3⟩
 ·exact .inl h
 ·exact .inr (.inl h)
 ·exact .inr (.inr ⟨h1,h2,o.asym h3⟩)
theorem srt_join {U V W1 W2:List β} {i j:Nat} (h1:W1.Perm (U.take i++V.take j)) (h2:W2.Perm (U.drop i++V.drop j)) (s1:Srt lt W1) (s2:Srt lt W2)
  (hu:Srt lt U) (hv:Srt lt V) (hlo:∀ a∈U.take i,∀ b∈V.drop j,¬ lt b a) (hhi:∀ a∈V.take j,∀ b∈U.drop i,¬ lt b a):Srt lt (W1++W2)∧(W1++W2).Perm (U++V):=by
 refine ⟨srt_app.2 ⟨s1,s2,?_⟩,?_⟩
 ·intro a ha b hb
  have ha:=h1.mem_iff.1 ha
  have hb:=h2.mem_iff.1 hb
  have hu2:=(srt_app.1 (by rw [List.take_append_drop]; exact hu:Srt lt (U.take i++U.drop i))).2.2
  have hv2:=(srt_app.1 (by rw [List.take_append_drop]; exact hv:Srt lt (V.take j++V.drop j))).2.2
  rcases List.mem_append.1 ha with ha|ha<;>rcases List.mem_append.1 hb with hb|hb
  ·exact hu2 a ha b hb
  ·exact hlo a ha b hb
  ·exact hhi a ha b hb
  ·exact hv2 a ha b hb
 ·refine (h1.append h2).trans ?_
  have e:U++V=(U.take i++U.drop i)++(V.take j++V.drop j):=by rw [List.take_append_drop,List.take_append_drop]
  rw [e,List.append_assoc,List.append_assoc,← List.append_assoc (V.take j),← List.append_assoc (U.drop i)]
  exact List.Perm.append_left _ (List.Perm.append_right _ List.perm_append_comm)
inductive Full (lt:β→β→Prop) (s:Nat):List β→Prop
 | nil:Full lt s []
 | snoc {l x:List β}:Full lt s l→x.length=s→Srt lt x→Full lt s (l++x)
inductive Chunks (lt:β→β→Prop) (s:Nat):List β→Prop
 | last {x:List β}:x.length≤s→Srt lt x→Chunks lt s x
 | cons {x l:List β}:x.length=s→Srt lt x→Chunks lt s l→Chunks lt s (x++l)
theorem Full.chunks {s:Nat} {l:List β} (h:Full lt s l):∀ {r:List β},Chunks lt s r→Chunks lt s (l++r):=by
 induction h with
 | nil=>intro r hr; exact hr
 | snoc h1 h2 h3 ih=>intro r hr; rw [List.append_assoc]; exact ih (.cons h2 h3 hr)
theorem Chunks.whole {s:Nat} {l:List β} (h:Chunks lt s l) (hs:l.length≤s) (h0:0<s):Srt lt l:=by
 cases h with
 | last h1 h2=>exact h2
 | cons h1 h2 h3 =>
  rename_i x r
  rw [List.length_append] at hs
  have:r=[]:=List.eq_nil_of_length_eq_zero (by omega)
  subst this
  rw [List.append_nil]; exact h2
theorem Chunks.first {s:Nat} {l:List β} (h:Chunks lt s l) (hs:s<l.length):∃ x r,l=x++r∧x.length=s∧Srt lt x∧Chunks lt s r:=by
 cases h with
 | last h1 h2=>omega
 | cons h1 h2 h3=>exact ⟨_,_,rfl,h1,h2,h3⟩
end
end Sl
end Go.Proofs.YtpkealohodeifaaGreat
namespace Go.Proofs.YtpkealohodeifaaGreat
open Go Go.RowKit
namespace Sl
set_option maxHeartbeats 4000000
set_option maxRecDepth 4000
attribute [local irreducible] Hold HoldL HoldW
def spanB (lo hi:Int) (k:Lk):Bool:=decide (lo≤k.block)&&decide (k.block<hi)
def ofL (l:List Lk) (lo hi:Int):List Int:=(l.filter (spanB lo hi)).map Lk.txn
theorem ofL_le (l:List Lk) (lo hi:Int):(ofL l lo hi).length≤l.length:=by unfold ofL; rw [List.length_map]; exact List.length_filter_le _ _
theorem ofL_succ {l:List Lk} {lo hi:Int} {i:Nat} (h:i<l.length):ofL (l.take (i+1)) lo hi=ofL (l.take i) lo hi++(if spanB lo hi l[i]=true then [l[i].txn] else []):=by
 unfold ofL
 rw [List.take_succ_eq_append_getElem h,List.filter_append,List.map_append]
 congr 1
 by_cases hc:spanB lo hi l[i]=true<;>simp [hc]
theorem of20_spec (w0:World) (X:Hp) (v:Value) (l:List Lk) (lo hi:Int) (hv:RdRow w0 X 4 v (encL l)) (hl:l.length≤1000000) :
  Spec Tryz.prog w0 207 [v,.agg [.int .i64 lo,.int .i64 hi].toArray] X (fun r h'=>∃ h,isRow 3 1 (enc1 (compI (sortI (ofL l lo hi)))) r h∧X+h=h'):=by
 obtain ⟨a,c,rfl,ha⟩:=id hv
 rw [encL_length] at *
 refine zN Tryz.func207 G Tryz.ntmps207 Tryz.results207 G fun fr=>?_
 repeat (first|refine zF ?_|refine zB ?_)
 refine L_box G (c:=[_,_]) G G G (fun b3=>?_)
 repeat (first|refine zF ?_|refine zR ?_|refine zB ?_|refine zE ?_|refine zK G G G ?_|refine L_len G G G ?_)
 refine hold_loop (fun m g L=>∃ (i:Nat) (vo:Value) (h R:Hp),i≤l.length∧m=l.length - i∧g=[(3,.pointer (some ⟨b3,0,none⟩)),(5,vo),(8,.slice a l.length c),(9,.int .i64 l.length),(10,.int .i64 i)]∧isRow 3 1 (enc1 (ofL (l.take i) lo hi)) vo h ∧
   L=X+h+pt b3 (.cells [.int .i64 lo,.int .i64 hi].toArray 70 (0,0))+fr+R) _ _
  ⟨0,.slice none 0 0,0,0,by omega,rfl,rfl,isRow_empty _ _ _,by simp only [yB]; first|rfl|ac_rfl⟩ (by repeat (first|exact zT _|refine zO G ?_)) ?_
 rintro m g L ⟨i,vo,h,R,hi',rfl,rfl,hro,rfl⟩
 repeat (first|refine zF ?_|refine zB ?_)
 refine yG G G (pv_lss G G) (fun n1=>?_) (fun n1=>?_)
 ·have hx:i<l.length:=by omega
  obtain ⟨b2,o2,rfl,hc2⟩:=ha.2 i _ (encL_at hx)
  have hsu:=ofL_succ (lo:=lo) (hi:=hi) hx
  repeat (first|refine zF ?_|refine zR ?_|refine zB ?_|refine zE ?_|refine zP ?_|refine zJ G ?_)
  refine yH G G (pv_indexAddr G G hx) ?_
  refine L_load G G (yF G) (loads_aggR G [_,_,_,_] rfl (fun j u hj=>(hc2 j u hj).frame)) ?_
  refine L_alloc (c:=[_,_,_,_]) G G G (fun b7=>?_)
  repeat (first|refine zF ?_|refine zB ?_|refine zE ?_|refine zZ G G G G G ?_|refine L_ld G G G G G ?_|refine L_stA G (vs:=[_,_,_,_]) G G G G (c':=[_,_,_,_]) G G ?_)
  refine yG G G (pv_geq G G) (fun n2=>?_) (fun n2=>?_)
  ·repeat (first|refine zK G G G ?_|refine zZ G G G G G ?_|refine L_ld G G G G G ?_)
   refine yG G G (pv_lss G G) (fun n3=>?_) (fun n3=>?_)
   ·rw [if_pos (by simp [spanB,n2,n3])] at hsu
    repeat (first|refine zB ?_|refine zE ?_|refine zK G G G ?_|refine zZ G G G G G ?_|refine L_ld G G G G G ?_|refine zJ G ?_)
    refine L_eff G G (ev_buildSlice (vs:=[_]) (cells:=[_]) G G G G) ?_
    rintro _ _ ⟨b4,rfl,rfl⟩
    refine L_eff G G (ev_append (xs:=enc1 (ofL (l.take i) lo hi)) (h:=h) (ns:=enc1 [l[i].txn]) G G hro (rd_one G) (enc1_one _) G G G (by have:=ofL_le (l.take i) lo hi; rw [List.length_take] at this; simp only [enc1_length]; simp; omega)) ?_
    rintro vo2 _ ⟨h2,hro2,rfl⟩
    rw [show enc1 (ofL (l.take i) lo hi)++enc1 [l[i].txn]=enc1 (ofL (l.take (i+1)) lo hi) by rw [hsu]; simp only [enc1,List.map_append]] at hro2
    repeat (first|refine zB ?_|refine zE ?_|refine zK G G G ?_|refine L_add G G (by omega) (by omega) G G ?_)
    exact ⟨l.length - (i+1),_,by omega,(by repeat (first|exact zT _|refine zO G ?_)),i+1,vo2,h2,_,by omega,rfl,rfl,hro2,yK.out⟩
   ·rw [if_neg (by simp [spanB,n2,n3]),List.append_nil] at hsu
    repeat (first|refine zB ?_|refine zE ?_|refine zK G G G ?_|refine zP ?_|refine zI G ?_|refine L_add G G (by omega) (by omega) G G ?_)
    exact ⟨l.length - (i+1),_,by omega,(by repeat (first|exact zT _|refine zO G ?_)),i+1,vo,h,_,by omega,rfl,rfl,by rw [hsu]; exact hro,yK.out⟩
  ·rw [if_neg (by simp [spanB,n2]),List.append_nil] at hsu
   repeat (first|refine zB ?_|refine zE ?_|refine zK G G G ?_|refine L_skip G G ?_|refine zP ?_|refine zI G ?_|refine L_add G G (by omega) (by omega) G G ?_)
   exact ⟨l.length - (i+1),_,by omega,(by repeat (first|exact zT _|refine zO G ?_)),i+1,vo,h,_,by omega,rfl,rfl,by rw [hsu]; exact hro,yK.out⟩
 ·rw [List.take_of_length_le (by omega)] at hro
  have hle:=ofL_le l lo hi
  repeat (first|refine zF ?_|refine yD ?_|refine zB ?_|refine zE ?_|refine zK G G G ?_|refine zI G ?_)
  refine zY G G (zQ G G G) (sort_spec w0 vo _ h hro (by omega)) ?_
  rintro _ h2 hr2
  repeat (first|refine zF ?_|refine zB ?_|refine zE ?_|refine zK G G G ?_)
  refine zY G G (zQ G G G) (compact_spec w0 vo _ h2 hr2 (by rw [sortI_length]; omega)) ?_
  rintro vo3 h3 hr3
  repeat (first|refine zE ?_|refine zK G G G ?_|refine zM ?_)
  exact ⟨[_],X+h3,_,⟨rfl,trivial⟩,⟨h3,hr3,rfl⟩,yK.out⟩
end Sl
end Go.Proofs.YtpkealohodeifaaGreat
namespace Go.Proofs.YtpkealohodeifaaGreat
open Go Go.RowKit
namespace Sl
set_option maxRecDepth 4000
instance (l:List Blk):Decidable (OkB l):=by unfold OkB; infer_instance
instance (l:List Kpt):Decidable (OkK l):=by unfold OkK; infer_instance
def wroteB (bs:List Blk) (ws:List Wr):List Blk:=ws.foldl (fun l w=>setB l w.block w.data) bs
def keptAll (ks:List Kpt) (snap:Int) (bs:List Blk) (ns:List Int):List Kpt:=ns.foldl (fun k n=>keepK k snap n (getB bs n)) ks
def commitS (s:Shd) (p:Prp):Shd:={ s with blocks:=wroteB s.blocks p.writes,kept:=keptAll s.kept p.snap (wroteB s.blocks p.writes) (mineF s.locks p) }
def unprepS (s:Shd) (t:Int):Shd:={ s with preps:=s.preps.filter fun p=>!isTx t p }
def decide1 (s:Shd) (o:Opn):Shd:=match s.preps.find? (isTx o.txn) with
 | some p=>unprepS (if o.value=1 then commitS s p else s) o.txn
 | none=>s
def decideF (s:Shd) (o:Opn):Shd × Res:=(if isPrep s o.txn=true∨o.value=2 then endS (decide1 s o) o.txn else decide1 s o,⟨0,[]⟩)
def endAll (s:Shd) (ts:List Int):Shd:={ s with locks:=withoutL s.locks ts,dead:=endD s.dead ts }
def partE (l:List Blk) (k:List Kpt):List Bt:=encL' encBlk l++encL' encKpt k
def ofS (s:Shd) (lo hi:Int):List Int:=compI (sortI (ofL s.locks lo hi))
def inK (lo hi:Int) (k:Kpt):Bool:=inS lo hi k.no
def partData (s:Shd) (lo hi:Int):List Bt:=partE (s.blocks.filter fun x=>inS lo hi x.no) (s.kept.filter (inK lo hi))
def goneS (s:Shd) (lo hi:Int):Shd:={ s with
 lo:=if lo=s.lo∧hi=s.hi then 0 else if lo=s.lo then hi else s.lo
 hi:=if lo=s.lo∧hi=s.hi then 0 else if lo=s.lo then s.hi else lo
 blocks:=s.blocks.filter fun x=>!inS lo hi x.no
 kept:=s.kept.filter fun x=>!inK lo hi x }
def isOut (e:Int) (u:Outp):Bool:=decide (u.epoch=e)
def freezeF (s:Shd) (o:Opn):Shd × Res:=match s.outs.find? (isOut o.epoch) with
 | some u=>(s,⟨0,u.data⟩)
 | none =>
  if o.epoch≤s.epoch then (s,⟨26,[]⟩)
  else if o.lo<s.lo∨s.hi<o.hi∨(o.lo≠s.lo∧o.hi≠s.hi) then (s,⟨3,[]⟩)
  else if (ofS s o.lo o.hi).any (isPrep s)=true then (s,⟨11,[]⟩)
  else ({ goneS (endAll s (ofS s o.lo o.hi)) o.lo o.hi with epoch:=o.epoch,outs:=s.outs++[⟨o.epoch,o.lo,o.hi,partData s o.lo o.hi⟩] },⟨0,partData s o.lo o.hi⟩)
def insK (x:Kpt):List Kpt→List Kpt
 | []=>[x]
 | y::l=>if ltK y x then y::insK x l else x::y::l
def sortK (l:List Kpt):List Kpt:=l.foldr insK []
def PartOk (lo hi:Int) (l:List Blk) (k:List Kpt):Prop:=OkB l∧(∀ b∈l,inS lo hi b.no=true)∧OkK k∧∀ x∈k,(0≤x.no∧x.no<64)∧inS lo hi x.no=true
instance (lo hi:Int) (l:List Blk) (k:List Kpt):Decidable (PartOk lo hi l k):=by unfold PartOk; infer_instance
def partB (d:List Bt):List Blk × St2:=listV oneBlk 16 (⟨d,false⟩,false)
def partK (d:List Bt):List Kpt × St2:=listV oneKpt 24 ((partB d).2.1,false)
def partF (d:List Bt) (lo hi:Int):Option (List Blk × List Kpt) :=
 if endV (partK d).2.1=0∧PartOk lo hi (partB d).1 (partK d).1 then some ((partB d).1,(partK d).1) else none
def comeS (s:Shd) (o:Opn) (l:List Blk) (k:List Kpt):Shd:={ s with
 lo:=min (if s.lo=s.hi then o.lo else s.lo) o.lo,hi:=max (if s.lo=s.hi then o.hi else s.hi) o.hi,epoch:=o.epoch,blocks:=joinB s.blocks l,kept:=sortK (s.kept++k) }
def installF (s:Shd) (o:Opn):Shd × Res :=
 if o.epoch=s.epoch then (s,⟨0,[]⟩) else if o.epoch<s.epoch then (s,⟨26,[]⟩)
 else if s.lo≠s.hi∧o.hi≠s.lo∧o.lo≠s.hi then (s,⟨3,[]⟩)
 else match partF o.data o.lo o.hi with
  | none=>(s,⟨4,[]⟩)
  | some (l,k)=>(comeS s o l k,⟨0,[]⟩)
def dropF (s:Shd) (o:Opn):Shd × Res:=({ s with outs:=s.outs.filter fun u=>!isOut o.epoch u },⟨0,[]⟩)
def doesK (k:Int):Prop:=1≤k∧k≤7∧k≠4
instance (k:Int):Decidable (doesK k):=by unfold doesK; infer_instance
def stepF (s:Shd) (o:Opn):Shd × Res :=
 if o.kind=1 then readF s o else if o.kind=2 then prepareF s o else if o.kind=3 then decideF s o else if o.kind=5 then freezeF s o else if o.kind=6 then installF s o else dropF s o
def noteS (s:Shd) (o:Opn) (r:Res):Shd:={ s with sess:=noteF s.sess o.client o.seq r }
def applyF (s:Shd) (o:Opn):Shd × Res :=
 if checkF o≠0 then (s,⟨checkF o,[]⟩)
 else if ¬ doesK o.kind then (s,⟨13,[]⟩)
 else if (askF s.sess o.client o.seq).2=7 then (s,(askF s.sess o.client o.seq).1)
 else if (askF s.sess o.client o.seq).2=15 then (s,⟨15,[]⟩)
 else (noteS (stepF s o).1 o (stepF s o).2,(stepF s o).2)
end Sl
end Go.Proofs.YtpkealohodeifaaGreat
namespace Go.Proofs.YtpkealohodeifaaGreat
open Go Go.RowKit
namespace Sl
set_option maxRecDepth 4000
theorem hasL_iff {l:List Lk} {t b:Int} {w:Bool}:hasL l t b w=true↔∃ x∈l,x.block=b∧x.txn=t∧(w=true→x.write=true):=by
 unfold hasL
 rw [List.any_eq_true]
 constructor
 ·rintro ⟨x,hx,h⟩
  simp only [hasP,Bool.and_eq_true,decide_eq_true_eq,Bool.or_eq_true,Bool.not_eq_true'] at h
  refine ⟨x,hx,h.1.1,h.1.2,fun hw=>?_⟩
  rcases h.2 with h|h
  ·exact h
  ·rw [hw] at h; cases h
 ·rintro ⟨x,hx,h1,h2,h3⟩
  refine ⟨x,hx,?_⟩
  simp only [hasP,Bool.and_eq_true,decide_eq_true_eq,Bool.or_eq_true,Bool.not_eq_true']
  refine ⟨⟨h1,h2⟩,?_⟩
  cases w
  ·exact .inr G
  ·exact .inl (h3 G)
theorem hasL_without {l:List Lk} {ts:List Int} {t b:Int} {w:Bool} (ht:t∉ts):hasL (withoutL l ts) t b w=hasL l t b w:=by
 rw [Bool.eq_iff_iff,hasL_iff,hasL_iff]
 constructor
 ·rintro ⟨x,hx,h⟩; exact ⟨x,(mem_withoutL.1 hx).1,h⟩
 ·rintro ⟨x,hx,h1,h2,h3⟩; exact ⟨x,mem_withoutL.2 ⟨hx,by rw [h2]; exact ht⟩,h1,h2,h3⟩
theorem Laid.from {l r:List Lk} {k:Lk} (h:Laid l k r) {x:Lk} (hx:x∈r):x=k∨∃ y∈l,y.block=x.block∧y.txn=x.txn∧y.age=x.age:=by
 rcases h with ⟨n,hn,h1,h2,rfl⟩|⟨_,⟨n,hn,h1,h2,rfl⟩|⟨_,rfl⟩⟩
 ·rcases List.mem_or_eq_of_mem_set hx with hx|rfl
  ·exact .inr ⟨x,hx,rfl,rfl,rfl⟩
  ·exact .inr ⟨l[n],List.getElem_mem hn,rfl,rfl,rfl⟩
 ·rcases List.mem_append.1 hx with hx|hx
  ·exact .inr ⟨x,List.mem_of_mem_take hx,rfl,rfl,rfl⟩
  ·rcases List.mem_cons.1 hx with rfl|hx
   ·exact .inl G
   ·exact .inr ⟨x,List.mem_of_mem_drop hx,rfl,rfl,rfl⟩
 ·rcases List.mem_append.1 hx with hx|hx
  ·exact .inr ⟨x,hx,rfl,rfl,rfl⟩
  ·rw [List.mem_singleton] at hx; subst hx; exact .inl G
theorem take_from {l a:List Lk} {k:Lk} {fixed w:List Int} {e:Int} (h:TakeP l k fixed a w e) {x:Lk} (hx:x∈a):x=k∨∃ y∈l,y.block=x.block∧y.txn=x.txn∧y.age=x.age:=by
 unfold TakeP at h
 split at h
 ·obtain ⟨rfl,_,_⟩:=h; exact .inr ⟨x,hx,rfl,rfl,rfl⟩
 ·split at h
  ·obtain ⟨rfl,_,_⟩:=h; exact .inr ⟨x,hx,rfl,rfl,rfl⟩
  ·split at h
   ·obtain ⟨rfl,_,_⟩:=h; exact .inr ⟨x,hx,rfl,rfl,rfl⟩
   ·rcases h.1.from hx with rfl|⟨y,hy,h1⟩
    ·exact .inl G
    ·exact .inr ⟨y,(mem_withoutL.1 hy).1,h1⟩
theorem take_wound {l a:List Lk} {k:Lk} {fixed w:List Int} {e:Int} (h:TakeP l k fixed a w e) {x:Int} (hx:x∈w):∃ y∈l,y.txn=x:=by
 unfold TakeP at h
 split at h
 ·obtain ⟨_,rfl,_⟩:=h; simp at hx
 ·split at h
  ·obtain ⟨_,rfl,_⟩:=h; simp at hx
  ·split at h
   ·obtain ⟨_,rfl,_⟩:=h; simp at hx
   ·obtain ⟨_,rfl,_⟩:=h
    obtain ⟨y,hy,_,e⟩:=mem_woundL.1 hx
    exact ⟨y,hy,e⟩
theorem take_keeps {l a:List Lk} {k:Lk} {fixed w:List Int} (h:TakeP l k fixed a w 0) {t b:Int} {wr:Bool} (ht:t∉w) (hh:hasL l t b wr=true):hasL a t b wr=true:=by
 obtain ⟨x,hx,h1,h2,h3⟩:=hasL_iff.1 hh
 have:=(take_ok h G).2.2.1 x hx (by rw [h2]; exact ht)
 obtain ⟨y,hy,g1,g2,g3⟩:=hasL_iff.1 this
 exact hasL_iff.2 ⟨y,hy,g1.trans h1,g2.trans h2,fun hw=>g3 (h3 hw)⟩
theorem lockS_cases (ls:List Lk) (d:List Int) (k:Lk) (fx:List Int) :
  lockS ls d k fx=(ls,d,11)∨lockS ls d k fx=(withoutL ls [k.txn],endD d [k.txn],24)∨∃ a w,TakeP ls k fx a w 0∧lockS ls d k fx=(withoutL a w,endD d w,0):=by
 have h:=takeF_P ls k fx
 have hl:=h.lens.2.2
 unfold lockS
 split
 ·exact .inl G
 ·split
  ·exact .inr (.inl G)
  ·refine .inr (.inr ⟨_,_,?_,rfl⟩)
   have e:(takeF ls k fx).2.2=0:=by omega
   rw [e] at h; exact h
structure Held (lo hi:Int) (ls:List Lk) (d:List Int) (ps:List Prp):Prop where
 lks:∀ k∈ls,(lo≤k.block∧k.block<hi)∧(1≤k.txn∧k.txn≤1099511627776)∧(0≤k.age∧k.age≤1099511627776)
 apart:∀ k∈ls,k.txn∉d
 pd:∀ p∈ps,p.txn∉d
 wr:∀ p∈ps,∀ w∈p.writes,hasL ls p.txn w.block true=true
 dn:∀ t∈d,1≤t∧t≤1099511627776
theorem Held.lock {lo hi:Int} {ls:List Lk} {d:List Int} {ps:List Prp} (h:Held lo hi ls d ps) {k:Lk} (hk:(lo≤k.block∧k.block<hi)∧(1≤k.txn∧k.txn≤1099511627776)∧(0≤k.age∧k.age≤1099511627776))
  (hd:k.txn∉d) (hp:∀ p∈ps,p.txn≠k.txn):Held lo hi (lockS ls d k (ps.map Prp.txn)).1 (lockS ls d k (ps.map Prp.txn)).2.1 ps ∧
   ((lockS ls d k (ps.map Prp.txn)).2.2=0→k.txn∉(lockS ls d k (ps.map Prp.txn)).2.1∧hasL (lockS ls d k (ps.map Prp.txn)).1 k.txn k.block k.write=true∧∀ b w,hasL ls k.txn b w=true→hasL (lockS ls d k (ps.map Prp.txn)).1 k.txn b w=true) ∧
   (∀ p∈ps,∀ b w,hasL ls p.txn b w=true→hasL (lockS ls d k (ps.map Prp.txn)).1 p.txn b w=true):=by
 rcases lockS_cases ls d k (ps.map Prp.txn) with e|e|⟨a,w,ht,e⟩<;>rw [e]
 ·exact ⟨h,fun h=>absurd h (show ¬ ((11:Int)=0) by decide),fun _ _ _ _ h=>h⟩
 ·refine ⟨⟨fun x hx=>h.lks x (mem_withoutL.1 hx).1,fun x hx=>?_,fun p hq hm=>?_,fun p hq w hw=>?_,fun t ht=>?_⟩,fun h=>absurd h (show ¬ ((24:Int)=0) by decide),fun p hq b w hh=>?_⟩
  ·obtain ⟨h1,h2⟩:=mem_withoutL.1 hx
   rw [mem_endD]
   rintro (h3|h3)
   ·exact h2 h3
   ·exact h.apart x h1 h3
  ·rcases mem_endD.1 hm with hm|hm
   ·exact hp p hq (List.mem_singleton.1 hm)
   ·exact h.pd p hq hm
  ·rw [hasL_without (by rw [List.mem_singleton]; exact hp p hq)]
   exact h.wr p hq w hw
  ·rcases mem_endD.1 ht with ht|ht
   ·rw [List.mem_singleton] at ht; subst ht; exact hk.2.1
   ·exact h.dn t ht
  ·rw [hasL_without (by rw [List.mem_singleton]; exact hp p hq)]; exact hh
 ·obtain ⟨t1,t2,t3,t4,t5,t6⟩:=take_ok ht rfl
  have wn:∀ p∈ps,p.txn∉w:=fun p hq hm=>(t1 _ hm).1 (List.mem_map_of_mem hq)
  refine ⟨⟨fun x hx=>?_,fun x hx hm=>?_,fun p hq hm=>?_,fun p hq v hv=>?_,fun t hm=>?_⟩,fun _=>⟨?_,?_,fun b v hh=>?_⟩,fun p hq b v hh=>?_⟩
  ·rcases take_from ht (mem_withoutL.1 hx).1 with rfl|⟨y,hy,e1,e2,e3⟩
   ·exact hk
   ·rw [← e1,← e2,← e3]; exact h.lks y hy
  ·obtain ⟨h1,h2⟩:=mem_withoutL.1 hx
   rcases mem_endD.1 hm with h3|h3
   ·exact h2 h3
   ·rcases take_from ht h1 with rfl|⟨y,hy,e1,e2,e3⟩
    ·exact hd h3
    ·exact h.apart y hy (by rw [e2]; exact h3)
  ·rcases mem_endD.1 hm with h3|h3
   ·exact wn p hq h3
   ·exact h.pd p hq h3
  ·rw [hasL_without (wn p hq)]
   exact take_keeps ht (wn p hq) (h.wr p hq v hv)
  ·rcases mem_endD.1 hm with h3|h3
   ·obtain ⟨y,hy,rfl⟩:=take_wound ht h3
    exact (h.lks y hy).2.1
   ·exact h.dn t h3
  ·intro hm
   rcases mem_endD.1 hm with h3|h3
   ·exact (t1 _ h3).2 rfl
   ·exact hd h3
  ·rw [hasL_without (fun hm=>(t1 _ hm).2 rfl)]
   have:=take_has ht
   rw [this]; rfl
  ·rw [hasL_without (fun hm=>(t1 _ hm).2 rfl)]
   exact take_keeps ht (fun hm=>(t1 _ hm).2 rfl) hh
  ·rw [hasL_without (wn p hq)]
   exact take_keeps ht (wn p hq) hh
theorem Held.ends {lo hi:Int} {ls:List Lk} {d:List Int} {ps:List Prp} (h:Held lo hi ls d ps) {ts:List Int} (ht:∀ t∈ts,1≤t∧t≤1099511627776) (hp:∀ p∈ps,p.txn∉ts):Held lo hi (withoutL ls ts) (endD d ts) ps:=by
 refine ⟨fun x hx=>h.lks x (mem_withoutL.1 hx).1,fun x hx hm=>?_,fun p hq hm=>?_,fun p hq w hw=>?_,fun t hm=>?_⟩
 ·obtain ⟨h1,h2⟩:=mem_withoutL.1 hx
  rcases mem_endD.1 hm with h3|h3
  ·exact h2 h3
  ·exact h.apart x h1 h3
 ·rcases mem_endD.1 hm with h3|h3
  ·exact hp p hq h3
  ·exact h.pd p hq h3
 ·rw [hasL_without (hp p hq)]; exact h.wr p hq w hw
 ·rcases mem_endD.1 hm with h3|h3
  ·exact ht t h3
  ·exact h.dn t h3
theorem Held.sub {lo hi:Int} {ls:List Lk} {d d':List Int} {ps:List Prp} (h:Held lo hi ls d ps) (hd:∀ t∈d',t∈d):Held lo hi ls d' ps :=
 ⟨h.lks,fun x hx hm=>h.apart x hx (hd _ hm),fun p hp hm=>h.pd p hp (hd _ hm),h.wr,fun t ht=>h.dn t (hd _ ht)⟩
theorem Held.less {lo hi:Int} {ls:List Lk} {d:List Int} {ps ps':List Prp} (h:Held lo hi ls d ps) (hp:∀ p∈ps',p∈ps):Held lo hi ls d ps' :=
 ⟨h.lks,h.apart,fun p hq=>h.pd p (hp p hq),fun p hq=>h.wr p (hp p hq),h.dn⟩
theorem Held.span {lo hi lo' hi':Int} {ls:List Lk} {d:List Int} {ps:List Prp} (h:Held lo hi ls d ps) (hl:∀ k∈ls,lo'≤k.block∧k.block<hi'):Held lo' hi' ls d ps :=
 ⟨fun k hk=>⟨hl k hk,(h.lks k hk).2⟩,h.apart,h.pd,h.wr,h.dn⟩
structure Took (s:Shd) (t:Int) (ks:List Lk) (x:Shd × Int):Prop where
 same:x.1=ldS s x.1.locks x.1.dead
 held:Held s.lo s.hi x.1.locks x.1.dead s.preps
 safe:Safe x.1.locks
 rises:Rises x.1.dead
 len:x.1.dead.length≤s.dead.length+65*ks.length
 mine:x.2=0→t∉x.1.dead∧(∀ k∈ks,hasL x.1.locks t k.block k.write=true)∧∀ b w,hasL s.locks t b w=true→hasL x.1.locks t b w=true
 theirs:∀ p∈s.preps,∀ b w,hasL s.locks p.txn b w=true→hasL x.1.locks p.txn b w=true
theorem tkAll_took {t:Int}:∀ (ks:List Lk) (s:Shd),Held s.lo s.hi s.locks s.dead s.preps→Safe s.locks→Rises s.dead→t∉s.dead→(∀ p∈s.preps,p.txn≠t) →
  (∀ k∈ks,k.txn=t∧(s.lo≤k.block∧k.block<s.hi)∧(1≤k.txn∧k.txn≤1099511627776)∧(0≤k.age∧k.age≤1099511627776))→Took s t ks (tkAll s ks)
 | [],s,h,hs,hr,hd,hp,hk=>⟨rfl,h,hs,hr,by simp [tkAll],fun _=>⟨hd,by simp,fun _ _ h=>h⟩,fun _ _ _ _ h=>h⟩
 | k::ks,s,h,hs,hr,hd,hp,hk=>by
  obtain ⟨e,k1⟩:=hk k (List.mem_cons_self ..)
  subst e
  obtain ⟨g1,g2,g4⟩:=h.lock k1 hd hp
  have g3:=lockS_dead (ls:=s.locks) s.dead k (s.preps.map Prp.txn)
  have gs:=lockS_safe hs s.dead k (s.preps.map Prp.txn)
  have gr:=lockS_rises (ls:=s.locks) hr k (s.preps.map Prp.txn)
  have hf:=hs.few
  have es:tkAll s (k::ks)=ks.foldl tkStep (tkS s k):=by
   show ks.foldl tkStep (tkStep (s,0) k)=_
   rw [show tkStep (s,0) k=tkS s k by unfold tkStep; rw [if_neg (by simp)]]
  by_cases hz:(tkS s k).2=0
  ·have e2:ks.foldl tkStep (tkS s k)=tkAll (tkS s k).1 ks:=by
    unfold tkAll
    rw [← hz]
   rw [es,e2]
   obtain ⟨m1,m2,m3⟩:=g2 hz
   have ih:=tkAll_took (t:=k.txn) ks (tkS s k).1 g1 gs gr m1 hp (fun k' hk'=>hk k' (List.mem_cons_of_mem _ hk'))
   refine ⟨ih.same,ih.held,ih.safe,ih.rises,?_,fun hq=>?_,fun p hq b w hh=>ih.theirs p hq b w (g4 p hq b w hh)⟩
   ·have i1:=ih.len
    have i2:(tkS s k).1.dead.length≤s.dead.length+s.locks.length+1:=g3
    rw [List.length_cons]; omega
   ·obtain ⟨n1,n2,n3⟩:=ih.mine hq
    refine ⟨n1,fun k' hk'=>?_,fun b w hh=>n3 b w (m3 b w hh)⟩
    rcases List.mem_cons.1 hk' with rfl|hk'
    ·exact n3 _ _ m2
    ·exact n2 k' hk'
  ·rw [es,tkStep_bad hz]
   refine ⟨rfl,g1,gs,gr,?_,fun hq=>absurd hq hz,g4⟩
   have i2:(tkS s k).1.dead.length≤s.dead.length+s.locks.length+1:=g3
   rw [List.length_cons]; omega
end Sl
end Go.Proofs.YtpkealohodeifaaGreat
namespace Go.Proofs.YtpkealohodeifaaGreat
open Go Go.RowKit
namespace Sl
def SpecD (P:Program) (w0:World) (f:FuncId) (args:List Value) (pre:Hp) (post:Hp→Prop):Prop :=
 ∀ (u:FrameMode) w fr,St w0 w (pre+fr)→CallsD P f args.toArray u w fun e u' w'=>u'=u∧∃ v h,e=.returned v∧post h∧St w0 w' (h+fr)
theorem specD_of_hold_d {P:Program} {w0:World} {f:FuncId} {fn:Func} {c:Code} {n:Nat} {args:List Value} {rs:List ResultVar} {pre:Hp} {post:Hp→Prop}
  (hf:P.funcs[f]?=some fn) (hb:fn.body=some c) (hn:fn.ntmps=n) (hr:fn.results=rs.toArray) (hargs:decide (args.length≤n)=true)
  (h:∀ fr,Hold P n w0 c (retD P w0 rs fr fun _ h=>post h) (argE 0 args) (pre+fr)):SpecD P w0 f args pre post:=by
 intro u w fr hst
 have hle:args.length≤n:=of_decide_eq_true hargs
 refine callsD_of_wp (R:=fun e w'=>∃ v h,e=.returned v∧post h∧St w0 w' (h+fr)) hf hb (Code.wp_mono ?_ (h fr { tmps:=args.toArray++Array.replicate (fn.ntmps - args.toArray.size) undef,defers:=[] } w ⟨by simp [hn]; omega,rfl,fun t v ht=>?_⟩ hst))
 ·rintro e a' w' ⟨g,L,hq,ha',hw'⟩
  cases e with
  | normal=>obtain ⟨vs,h',R,h1,h2,rfl⟩:=hq; exact ⟨ha'.nodefer,_,resOk_run ha' hw' fn rs hr h1,_,h',rfl,h2,hw'.left⟩
  | ret=>obtain ⟨vs,h',R,h1,h2,rfl⟩:=hq; exact ⟨ha'.nodefer,_,resOk_run ha' hw' fn rs hr h1,_,h',rfl,h2,hw'.left⟩
  | _=>exact hq.elim
 ·have:=(look_argE args 0 t v ht).2
  simp only [Nat.sub_zero] at this
  have hlt:=(List.getElem?_eq_some_iff.1 this).1
  rw [List.getElem?_eq_getElem hlt] at this
  simp [Array.getElem?_append,hlt,Option.some.inj this]
abbrev PostX :=List Deferred→Exit→Env→Hp→Prop
def bare (a:Act):Act:={ a with defers:=[] }
def liftX (n:Nat) (w0:World) (Q:PostX):Exit→Act→World→Prop:=fun e a w=>∃ g L,Q a.defers e g L∧Fits n (bare a) g∧St w0 w L
def HoldX (P:Program) (n:Nat) (w0:World) (c:Code) (Q:PostX) (ds:List Deferred) (g:Env) (L:Hp):Prop :=
 ∀ a w,Fits n (bare a) g→a.defers=ds→St w0 w L→c.wp P (liftX n w0 Q) a w
def HoldXL (P:Program) (n:Nat) (w0:World) (ops:Array Oper) (rest:List Oper) (Q:PostX) (ds:List Deferred) (g:Env) (L:Hp):Prop :=
 ∀ a w,Fits n (bare a) g→a.defers=ds→St w0 w L→wpList P ops (liftX n w0 Q) rest a w
def seqX (P:Program) (n:Nat) (w0:World) (y:Code) (Q:PostX):PostX
 | ds,.normal,g,L=>HoldX P n w0 y Q ds g L
 | ds,e,g,L=>Q ds e g L
theorem bare_put (a:Act) (dst:Option Nat) (v:Value):bare (a.put dst v)=(bare a).put dst v:=by cases dst<;>rfl
theorem put_defers (a:Act) (dst:Option Nat) (v:Value):(a.put dst v).defers=a.defers:=by cases dst<;>rfl
section
variable {P:Program} {n:Nat} {w0:World} {Q:PostX} {ds:List Deferred} {g:Env} {L:Hp}
theorem X_seq {x y:Code} (h:HoldX P n w0 x (seqX P n w0 y Q) ds g L):HoldX P n w0 (.seq x y) Q ds g L:=by
 intro a w ha hd hw
 refine wp_seq (Code.wp_mono ?_ (h a w ha hd hw))
 rintro e a' w' ⟨g',L',hq,ha',hw'⟩
 cases e<;>first|exact hq a' w' ha' rfl hw'|exact ⟨g',L',hq,ha',hw'⟩
theorem X_ret (h:Q ds .ret g L):HoldX P n w0 .ret Q ds g L:=fun _ _ ha hd hw=>wp_ret ⟨g,L,by rw [hd]; exact h,ha,hw⟩
theorem X_region_lit {id:Nat} {l:List Oper} (h:HoldXL P n w0 l.toArray l Q ds g L):HoldX P n w0 (.region id l.toArray false) Q ds g L :=
 fun a w ha hd hw=>wp_region_list (h a w ha hd hw)
theorem X_nil {ops:Array Oper} (h:Q ds .normal g L):HoldXL P n w0 ops [] Q ds g L:=fun _ _ ha hd hw=>⟨g,L,by rw [hd]; exact h,ha,hw⟩
variable {ops:Array Oper} {rest:List Oper} {dst:Option Nat} {op:Op} {ty:TypeId} {pos:String} {af:Array Edge} {gd:Option (Nat × Bool)}
theorem X_run (hw:wantedE ops g gd=some true) (h:∀ a w,Fits n (bare a) g→a.defers=ds→St w0 w L→Oper.wp P ⟨dst,op,ty,pos,af,gd⟩ a w (wpList P ops (liftX n w0 Q) rest) (liftX n w0 Q)):HoldXL P n w0 ops (⟨dst,op,ty,pos,af,gd⟩::rest) Q ds g L:=by
 intro a w ha hd hst
 unfold wpList
 have hwn:Region.wanted ⟨dst,op,ty,pos,af,gd⟩ (yielded ops a.tmps)=true:=wanted_of (o:=⟨dst,op,ty,pos,af,gd⟩) (a:=bare a) ha hw
 rw [if_pos hwn]
 exact .inl (h a w ha hd hst)
theorem X_pure (hw:wantedE ops g gd=some true) (hd:dst.all (·<n)=true) {v:Value} (h:PV P g op v) (hk:HoldXL P n w0 ops rest Q ds (putE g dst v) L):HoldXL P n w0 ops (⟨dst,op,ty,pos,af,gd⟩::rest) Q ds g L :=
 X_run hw fun a w ha hds hst=>by
  unfold Oper.wp
  rw [show (execOp a.eval ⟨dst,op,ty,pos,af,gd⟩).run P w=.ok (.value v) w from h ⟨dst,op,ty,pos,af,gd⟩ (bare a) w n G ha]
  exact hk _ w (by rw [bare_put]; exact ha.put hd _) (by rw [put_defers]; exact hds) hst
theorem X_load (hw:wantedE ops g gd=some true) (hd:dst.all (·<n)=true) {t:TypeId} {ad:Addr} {v:Value} (h:LV g op t ad) (hr:Loads P w0 L t ad v)
  (hk:HoldXL P n w0 ops rest Q ds (putE g dst v) L):HoldXL P n w0 ops (⟨dst,op,ty,pos,af,gd⟩::rest) Q ds g L :=
 X_run hw fun a w ha hds hst=>by
  unfold Oper.wp
  rw [show execOp a.eval ⟨dst,op,ty,pos,af,gd⟩=(do pure (.value (← loadVar t ad))) from h ⟨dst,op,ty,pos,af,gd⟩ (bare a) n G ha]
  simp only [Sem.run_bind,hr w hst,Result.andThen_ok,Sem.run_pure]
  exact hk _ w (by rw [bare_put]; exact ha.put hd _) (by rw [put_defers]; exact hds) hst
theorem X_eff (hw:wantedE ops g gd=some true) (hd:dst.all (·<n)=true) {post:Value→Hp→Prop} (h:EV P w0 L g op post)
  (hk:∀ v L',post v L'→HoldXL P n w0 ops rest Q ds (putE g dst v) L'):HoldXL P n w0 ops (⟨dst,op,ty,pos,af,gd⟩::rest) Q ds g L :=
 X_run hw fun a w ha hds hst=>by
  unfold Oper.wp
  obtain ⟨v,w',L',hr,hp,hst'⟩:=h ⟨dst,op,ty,pos,af,gd⟩ (bare a) w n rfl ha hst
  have hr':(execOp a.eval ⟨dst,op,ty,pos,af,gd⟩).run P w=.ok (.value v) w'∨((execOp a.eval ⟨dst,op,ty,pos,af,gd⟩).run P w=.ok .skip w'∧v=undef):=hr
  clear hr
  rcases hr' with hr|⟨hr,rfl⟩<;>rw [hr]<;>exact hk _ L' hp _ w' (by rw [bare_put]; exact ha.put hd _) (by rw [put_defers]; exact hds) hst'
theorem X_call (hw:wantedE ops g gd=some true) (hd:dst.all (·<n)=true) {k:FuncId} {args:List Value} (h:CV P g op k args) {pre R:Hp} {post:Value→Hp→Prop}
  (hs:Spec P w0 k args pre post) [hL:yK pre L R] (hk:∀ v h,post v h→HoldXL P n w0 ops rest Q ds (putE g dst v) (h+R)):HoldXL P n w0 ops (⟨dst,op,ty,pos,af,gd⟩::rest) Q ds g L :=
 X_run hw fun a w ha hds hst=>by
  unfold Oper.wp
  rw [show (execOp a.eval ⟨dst,op,ty,pos,af,gd⟩).run P w=.ok (.enter k args.toArray) w from h ⟨dst,op,ty,pos,af,gd⟩ (bare a) w n G ha]
  rw [hL.out] at hst
  refine Calls.mono (hs w R hst) ?_
  rintro e w' ⟨v,h',rfl,hp,hst'⟩
  exact hk v h' hp _ w' (by rw [bare_put]; exact ha.put hd _) (by rw [put_defers]; exact hds) hst'
theorem X_defer (hw:wantedE ops g gd=some true) (hd:dst.all (·<n)=true) {f:Operand} {xs:List Operand} {ts:Array TypeId} {k:FuncId} {cap:Array Value} {vs:List Value}
  (h:ev g f=some (.func (.func k) #[] cap)) (hxs:evs g xs=some vs) (hk:HoldXL P n w0 ops rest Q (⟨.fn (.func k) cap,vs.toArray⟩::ds) (putE g dst undef) L) :
  HoldXL P n w0 ops (⟨dst,.defer { callee:=.value f,args:=xs.toArray,argTypes:=ts },ty,pos,af,gd⟩::rest) Q ds g L :=
 X_run hw fun a w ha hds hst=>by
  unfold Oper.wp
  have hargs:(xs.toArray.map a.eval)=vs.toArray:=by rw [List.map_toArray]; exact congrArg List.toArray (ha.evs hxs)
  have hv:a.eval f=.func (.func k) #[] cap:=ha.ev h
  have e:(execOp a.eval ⟨dst,.defer { callee:=.value f,args:=xs.toArray,argTypes:=ts },ty,pos,af,gd⟩).run P w=.ok (.defer ⟨.fn (.func k) cap,vs.toArray⟩) w:=by
   unfold execOp
   simp [resolve,hv,hargs,Deferred.ofValue]
  rw [e,Oper.upon_defer]
  refine hk _ w ?_ (by rw [put_defers,← hds]) hst
  rw [bare_put]
  exact Fits.put (a:=bare a) ha hd _
theorem X_of {v:Value} (h:pureV g op=some v) (hw:wantedE ops g gd=some true) (hd:dst.all (·<n)=true) (hk:HoldXL P n w0 ops rest Q ds (putE g dst v) L) :
  HoldXL P n w0 ops (⟨dst,op,ty,pos,af,gd⟩::rest) Q ds g L:=X_pure hw hd (pv_of h) hk
theorem X_clo {k:Nat} {cap:List Operand} {vs:List Value} (h:evs g cap=some vs) (hw:wantedE ops g gd=some true) (hd:dst.all (·<n)=true) (hk:HoldXL P n w0 ops rest Q ds (putE g dst (.func (.func k) #[] vs.toArray)) L) :
  HoldXL P n w0 ops (⟨dst,.makeFunc (.func k) #[] cap.toArray,ty,pos,af,gd⟩::rest) Q ds g L :=
 X_pure hw hd (v:=.func (.func k) #[] vs.toArray) (by intro o a w n ho ha; unfold execOp; simp [ho,Instr.makeFunc,ha.evs h]) hk
theorem X_box {t:TypeId} {x:Operand} {v:Value} (hx:ev g x=some v) {c:List Value} (hc:v.cells.toList=c) (hw:wantedE ops g gd=some true) (hd:dst.all (·<n)=true)
  (hk:∀ b,HoldXL P n w0 ops rest Q ds (putE g dst (.pointer (some ⟨b,0,none⟩))) (pt b (.cells c.toArray t (0,0))+L)) :
  HoldXL P n w0 ops (⟨dst,.box t x,ty,pos,af,gd⟩::rest) Q ds g L:=X_eff hw hd (ev_box hx) (by rintro _ _ ⟨b,rfl,rfl⟩; subst hc; simpa using hk b)
theorem X_alloc {t:TypeId} {sz by':Nat} {z:Value} [hi:Inf P t sz by' z] {c:List Value} (hc:z.cells.toList=c) (hw:wantedE ops g gd=some true) (hd:dst.all (·<n)=true)
  (hk:∀ b,HoldXL P n w0 ops rest Q ds (putE g dst (.pointer (some ⟨b,0,none⟩))) (pt b (.cells c.toArray t (0,0))+L)) :
  HoldXL P n w0 ops (⟨dst,.alloc t,ty,pos,af,gd⟩::rest) Q ds g L:=X_eff hw hd ev_alloc (by rintro _ _ ⟨b,rfl,rfl⟩; subst hc; simpa using hk b)
theorem X_ldA {t:TypeId} {d:TypeDesc} [hu:Und P t d] {sz by':Nat} {z:Value} [hi:Inf P t sz by' z] {x:Operand} {b off:Nat} {c:List Value} {e:TypeId} {fz:Nat × Nat} {R:Hp} {vs:List Value}
  (hx:ev g x=some (.pointer (some ⟨b,off,none⟩))) [hb:HasPt b L (.cells c.toArray e fz) R] (hc:(c.drop off).take sz=vs) (hl:(vs.length==sz)=true) (hn:notAgg d=false)
  (hw:wantedE ops g gd=some true) (hd:dst.all (·<n)=true) (hk:HoldXL P n w0 ops rest Q ds (putE g dst (.agg vs.toArray)) L) :
  HoldXL P n w0 ops (⟨dst,.load t x,ty,pos,af,gd⟩::rest) Q ds g L:=X_load hw hd (yF hx) (zL hn hc hl) hk
theorem X_stA {t:TypeId} {sz by':Nat} {z:Value} [hi:Inf P t sz by' z] {x y:Operand} {b off:Nat} {c:List Value} {e:TypeId} {vs:List Value} {R:Hp}
  (hx:ev g x=some (.pointer (some ⟨b,off,none⟩))) (hy:ev g y=some (.agg vs.toArray)) [hb:HasPt b L (.cells c.toArray e (0,0)) R] (hl:(vs.length==sz)=true) (h1:vs.all (·.oneCell')=true) (hc:Nat.ble (off+vs.length) c.length=true)
  {c':List Value} (hc':spliceL off vs c=c') (hw:wantedE ops g gd=some true) (hk:HoldXL P n w0 ops rest Q ds g (pt b (.cells c'.toArray e (0,0))+R)) :
  HoldXL P n w0 ops (⟨none,.store t x y,ty,pos,af,gd⟩::rest) Q ds g L:=X_eff hw G (ev_storeA hx hy hl h1 (Nat.le_of_ble_eq_true hc) hc') (by rintro _ _ rfl; exact hk)
end
def retX (P:Program) (w0:World) (rs:List ResultVar) (fr:Hp) (post:Value→Hp→Prop):PostX
 | ds,.normal,g,L|ds,.ret,g,L=>∃ (k:FuncId) (cap vs:List Value) (pre2 R2:Hp) (post2:Hp→Prop),ds=[⟨.fn (.func k) cap.toArray,vs.toArray⟩]∧Nonempty (Fun P k)∧SpecD P w0 k (vs++cap) pre2 post2∧L=pre2+R2 ∧
   ∀ h2,post2 h2→∃ us h R,ResOk P w0 g (h2+R2) rs us∧post (oneV us) h∧h2+R2=h+fr+R
 | _,_,_,_=>False
theorem invoke_fun {P:Program} {k:FuncId} [hf:Fun P k] (cap vs:List Value) (w:World):(invoke (.fn (.func k) cap.toArray) vs.toArray).run P w=.ok (.enter k (vs++cap).toArray) w:=by
 obtain ⟨fn,h1,h2,h3⟩:=hf.out
 simp only [invoke,callFunc,Sem.run_bind,run_program,Result.andThen_ok,h1,h2,h3,Bool.false_eq_true,if_false,Sem.run_pure]
 congr 2
 simp
theorem spec_of_holdX {P:Program} {w0:World} {f:FuncId} {fn:Func} {c:Code} {n:Nat} {args:List Value} {rs:List ResultVar} {pre:Hp} {post:Value→Hp→Prop}
  (hf:P.funcs[f]?=some fn) (hb:fn.body=some c) (hn:fn.ntmps=n) (hr:fn.results=rs.toArray) (hargs:decide (args.length≤n)=true)
  (h:∀ fr,HoldX P n w0 c (retX P w0 rs fr post) [] (argE 0 args) (pre+fr)):Spec P w0 f args pre post:=by
 intro w fr hst
 have hle:args.length≤n:=of_decide_eq_true hargs
 refine calls_of_wp_defers hf hb (Code.wp_mono ?_ (h fr { tmps:=args.toArray++Array.replicate (fn.ntmps - args.toArray.size) undef,defers:=[] } w ⟨by simp [hn,bare]; omega,rfl,fun t v ht=>?_⟩ rfl hst))
 ·have key:∀ (a':Act) (w':World) (g:Env) (L:Hp),retX P w0 rs fr post a'.defers .ret g L→Fits n (bare a') g→St w0 w' L→Leaves P fn a'.tmps (fun e w'=>∃ v h,e=.returned v∧post v h∧St w0 w' (h+fr)) a'.defers .returning w':=by
   rintro a' w' g L ⟨k,cap,vs,pre2,R2,post2,hds,⟨hfun⟩,hsp,rfl,hpost⟩ ha' hw'
   rw [hds]
   refine leaves_cons (by simp) (invoke_fun cap vs w') (CallsD.mono (hsp .returning w' R2 hw') ?_)
   rintro e u' w2 ⟨rfl,v,h2,rfl,hp2,hst2⟩
   obtain ⟨us,h',R,h1,h3,h4⟩:=hpost h2 hp2
   refine ⟨oneV us,resOk_run ha' hst2 fn rs hr h1,_,h',rfl,h3,?_⟩
   rw [h4] at hst2
   exact hst2.left
  rintro e a' w' ⟨g,L,hq,ha',hw'⟩
  cases e with
  | normal=>exact key a' w' g L hq ha' hw'
  | ret=>exact key a' w' g L hq ha' hw'
  | _=>exact hq.elim
 ·have:=(look_argE args 0 t v ht).2
  simp only [Nat.sub_zero] at this
  have hlt:=(List.getElem?_eq_some_iff.1 this).1
  rw [List.getElem?_eq_getElem hlt] at this
  simp [bare,Array.getElem?_append,hlt,Option.some.inj this]
end Sl
end Go.Proofs.YtpkealohodeifaaGreat
namespace Go.Proofs.YtpkealohodeifaaGreat
open Go Go.RowKit
namespace Sl
set_option maxHeartbeats 16000000
set_option maxRecDepth 4000
set_option synthInstance.maxHeartbeats 400000
set_option synthInstance.maxSize 100000
attribute [local irreducible] Hold HoldL HoldW HoldX HoldXL
theorem drop1_spec (w0:World) (u:Outp) (e:List Value) (Y:Hp) (he:Rep.rd w0 Y u e) (b:Nat) (o:Opn) (v1 v2 v3 v4:Value) :
  Spec Tryz.prog w0 221 [.agg e.toArray,.pointer (some ⟨b,0,none⟩)] (opC b o v1 v2 v3 v4) (fun r h'=>r=.bool (isOut o.epoch u)∧opC b o v1 v2 v3 v4=h'):=by
 obtain ⟨a,c,rfl,_⟩:=he
 refine zN Tryz.func221 G Tryz.ntmps221 Tryz.results221 G fun fr=>?_
 repeat (first|refine zF ?_|refine zB ?_|refine zE ?_|refine zK G G G ?_|refine zZ G G G G G ?_|refine L_ld G G G G G ?_|refine L_box G (c:=[_,_,_,_]) G G G (fun _=>?_))
 refine yH G G (pv_eql G G) ?_
 repeat (first|refine zE ?_|refine zK G G G ?_|refine zM ?_)
 exact ⟨[_],_,_,⟨rfl,trivial⟩,⟨rfl,rfl⟩,yK.out⟩
theorem drop22_spec (w0:World) (X:Hp) (b:Nat) (s:Shd) (h:Hp) (o:Opn) (e:List Value) (hs:ShAt w0 X b s h) (ho:∃ Y,Rep.rd w0 Y o e) (hz:Sized s) :
  Spec Tryz.prog w0 160 [.pointer (some ⟨b,0,none⟩),.agg e.toArray] (X+h) (PostS w0 X b (dropF s o)):=by
 obtain ⟨a1,c1,a2,c2,a3,c3,a4,c4,a5,c5,a6,c6,a7,c7,h1,h2,h3,h4,h5,h6,h7,o1,o2,o3,o4,o5,o6,o7,rfl⟩:=id hs
 obtain ⟨Y,x1,y1,x2,y2,x3,y3,x4,y4,rfl,_,_,_,_⟩:=ho
 have z1:=hz.outs
 refine zN Tryz.func160 G Tryz.ntmps160 Tryz.results160 G fun fr=>?_
 repeat (first|refine zF ?_|refine zB ?_|refine zE ?_|refine zK G G G ?_|refine zZ G G G G G ?_|refine L_ld G G G G G ?_|refine L_box G (c:=[_,_,_,_,_,_,_,_,_,_,_,_,_,_,_,_,_]) G G G (fun _=>?_)|refine L_alloc (c:=[_,_]) G G G (fun _=>?_)|refine L_clo G G G ?_)
 rename_i b3 b4
 refine zY G G (zQ G G G) (deleteFuncOut_spec w0 (X+opC b3 o (.slice x1 o.parts.length y1) (.slice x2 o.reads.length y2) (.slice x3 o.writes.length y3) (.slice x4 o.data.length y4)) s.outs (.slice a6 s.outs.length c6) h6 221 [.pointer (some ⟨b3,0,none⟩)] (isOut o.epoch) (o6.mono G) (by omega)
  (fun Y x e hx he=>Spec.frameL (hadd_comm _ _) (drop1_spec w0 x e Y he b3 o (.slice x1 o.parts.length y1) (.slice x2 o.reads.length y2) (.slice x3 o.writes.length y3) (.slice x4 o.data.length y4)))) ?_
 rintro vo _ ⟨h6',o6',rfl⟩
 obtain ⟨a6',c6',rfl⟩:=o6'.shape
 repeat (first|refine zF ?_|refine zB ?_|refine zE ?_|refine zK G G G ?_|refine zZ G G G G G ?_|refine L_st G G G (c':=[_,_,_,_,_,_,_,_,_,_]) G G G G ?_)
 refine zY G G (zQ G G G) (code22_spec w0 0) ?_
 rintro _ _ ⟨rfl,rfl⟩
 repeat (first|refine zE ?_|refine zM ?_|refine L_stA G (vs:=[_,_]) G G G G (c':=[_,_]) G G ?_)
 exact ⟨[_],X+opC b3 o (.slice x1 o.parts.length y1) (.slice x2 o.reads.length y2) (.slice x3 o.writes.length y3) (.slice x4 o.data.length y4)+(stC b (cellsS s (.slice a1 s.blocks.length c1) (.slice a2 s.kept.length c2) (.slice a3 s.locks.length c3) (.slice a4 s.preps.length c4) (.slice a5 s.dead.length c5) (.slice a6' (s.outs.filter fun u=>!isOut o.epoch u).length c6') (.slice a7 s.sess.length c7))+h1+h2+h3+h4+h5+h6'+h7),_,⟨⟨_,rfl,zL G G G⟩,trivial⟩,
  PostS.code (s:={ s with outs:=s.outs.filter fun u=>!isOut o.epoch u }) ⟨a1,c1,a2,c2,a3,c3,a4,c4,a5,c5,a6',c6',a7,c7,h1,h2,h3,h4,h5,h6',h7,o1.mono G,o2.mono G,o3,o4.mono G,o5,o6',o7.mono G,rfl⟩,yK.out⟩
theorem pv_bound {P:Program} {g:Env} {k:Nat} {first:List Operand} {vs:List Value} (h:evs g first=some vs):PV P g (.makeFunc (.func k) first.toArray #[]) (.func (.func k) vs.toArray #[]):=by
 intro o a w n ho ha; unfold execOp
 simp [ho,Instr.makeFunc,ha.evs h]
def doV (b:Nat) (k:Int):Value :=
 if k=1 then .func (.func 155) #[.pointer (some ⟨b,0,none⟩)] #[] else if k=2 then .func (.func 156) #[.pointer (some ⟨b,0,none⟩)] #[]
 else if k=3 then .func (.func 157) #[.pointer (some ⟨b,0,none⟩)] #[] else if k=5 then .func (.func 158) #[.pointer (some ⟨b,0,none⟩)] #[]
 else if k=6 then .func (.func 159) #[.pointer (some ⟨b,0,none⟩)] #[] else if k=7 then .func (.func 160) #[.pointer (some ⟨b,0,none⟩)] #[] else .nilFunc
theorem doing_spec (w0:World) (b:Nat) (k:Int):Spec Tryz.prog w0 101 [.pointer (some ⟨b,0,none⟩),.int .i64 k] 0 (fun r h'=>r=doV b k∧0=h'):=by
 refine zN Tryz.func101 G Tryz.ntmps101 Tryz.results101 G fun fr=>?_
 repeat (first|refine zF ?_|refine zR ?_|refine zB ?_|refine zE ?_|refine zK G G G ?_)
 repeat' (first|refine yH G G (pv_bound (first:=[_]) G) ?_|refine zF ?_|refine zB ?_|refine zE ?_|refine zK G G G ?_|refine zP ?_|refine zM ?_|refine zJ G ?_|refine zI G ?_|refine yG G G (pv_eql G G) (fun _=>?_) (fun _=>?_)|exact ⟨[_],0,_,⟨rfl,trivial⟩,⟨by unfold doV; simp only [*,if_true,if_false,reduceIte,Int.reduceEq]; try rfl,rfl⟩,yK.out⟩|done)
theorem noteD_spec (w0:World) (X:Hp) (b b3 b4 b6:Nat) (s:Shd) (h:Hp) (o:Opn) (v1 v2 v3 v4:Value) (r:Res) (hr:Hp) (a8:Option Addr) (c8:Nat) (hs:ShAt w0 X b s h) (hor:OwL w0 0 r.data (.slice a8 r.data.length c8) hr) (hz:s.sess.length≤1000000) (hd:∀ x∈s.sess,x.res.data.length≤1000000000) (hrd:r.data.length≤1000000000) :
  SpecD Tryz.prog w0 161 [.pointer (some ⟨b3,0,none⟩),.pointer (some ⟨b4,0,none⟩),.pointer (some ⟨b6,0,none⟩)] (X+h+hr+ptrC b3 b+opC b4 o v1 v2 v3 v4+pt b6 (.cells [.int .i64 r.code,.slice a8 r.data.length c8].toArray 51 (0,0)))
   (fun h'=>∃ E h2,ShAt w0 (X+E) b (noteS s o r) h2∧X+E+h2+hr+pt b6 (.cells [.int .i64 r.code,.slice a8 r.data.length c8].toArray 51 (0,0))=h'):=by
 obtain ⟨a1,c1,a2,c2,a3,c3,a4,c4,a5,c5,a6,c6,a7,c7,h1,h2,h3,h4,h5,h6,h7,o1,o2,o3,o4,o5,o6,o7,rfl⟩:=id hs
 have hnote:=note18_spec w0 (X+h7+hr) (.slice a7 s.sess.length c7) s.sess o.client o.seq r [.int .i64 r.code,.slice a8 r.data.length c8] (o7.rd0.mono G) (by omega) hd ⟨a8,c8,rfl,hor.rd (L:=X+h7+hr) (R:=X+h7) (hf:=⟨by rw [hzero_add]; ac_rfl⟩)⟩ hrd
 refine specD_of_hold_d Tryz.func161 G Tryz.ntmps161 Tryz.results161 G fun fr=>?_
 skip
 refine yC [11,15] [0,1,2,3,4,5,6,7,8,9,10,11,12,13,14,15] (by kernel_rfl) G (by kernel_rfl) (by kernel_rfl) ?_
 repeat (first|refine yI G G G G G ?_|refine yE G G G G (yA G G G) ?_|refine W_load G G G G (yF G) (zG G (zS G)) ?_|refine W_load G G G G (yF G) (zL (vs:=[_,_]) G G G) ?_)
 refine W_call G G G G (zQ G G G) hnote (Kept.all _) ?_
 rintro vn _ ⟨E,h7',o7',rfl⟩
 obtain ⟨a7',c7',rfl⟩:=o7'.shape
 refine ⟨(by repeat (first|exact trivial|exact zG G (zS G)|exact zL G G G|exact zX G (by assumption) G|exact zH G (by assumption) G|exact zH G (by assumption) (by assumption)|refine ⟨?_,?_⟩)),?_⟩
 repeat (first|refine yI G G G G G ?_|refine yE G G G G (yA G G G) ?_)
 refine W_eff (W':=?wk1) G G G G (ev_store G G G G G (c':=[_,_,_,_,_,_,_,_,_,_]) G) ?wkk1 ?wrest1
 case wkk1=>repeat (first|exact Kept.nil|refine Kept.drop (by kernel_rfl) ?_|refine Kept.keep ?_)
 rintro _ _ rfl
 refine ⟨(by repeat (first|exact trivial|exact zG G (zS G)|exact zL G G G|exact zX G (by assumption) G|exact zH G (by assumption) G|exact zH G (by assumption) (by assumption)|refine ⟨?_,?_⟩)),?_⟩
 repeat (refine yJ ?_)
 skip
 exact ⟨[],X+E+(stC b (cellsS s (.slice a1 s.blocks.length c1) (.slice a2 s.kept.length c2) (.slice a3 s.locks.length c3) (.slice a4 s.preps.length c4) (.slice a5 s.dead.length c5) (.slice a6 s.outs.length c6) (.slice a7' (noteF s.sess o.client o.seq r).length c7'))+h1+h2+h3+h4+h5+h6+h7')+hr+pt b6 (.cells [.int .i64 r.code,.slice a8 r.data.length c8].toArray 51 (0,0)),_,trivial,
  ⟨E,_,⟨a1,c1,a2,c2,a3,c3,a4,c4,a5,c5,a6,c6,a7',c7',h1,h2,h3,h4,h5,h6,h7',o1.mono G,o2.mono G,o3,o4.mono G,o5,o6.mono G,o7'.mono (hadd_comm _ _),rfl⟩,rfl⟩,yK.out⟩
theorem do22_spec (w0:World) (X:Hp) (b:Nat) (s:Shd) (h:Hp) (o:Opn) (e:List Value) (k:Nat) [hfk:Fun Tryz.prog k] (q:Shd × Res) (ho:Rep.rd w0 X o e) (hk:Spec Tryz.prog w0 k [.pointer (some ⟨b,0,none⟩),.agg e.toArray] (X+h) (PostS w0 X b q)) (hz:q.1.sess.length≤1000000) (hd:∀ x∈q.1.sess,x.res.data.length≤1000000000) (hrd:q.2.data.length≤1000000000) :
  Spec Tryz.prog w0 102 [.pointer (some ⟨b,0,none⟩),.agg e.toArray,.func (.func k) #[.pointer (some ⟨b,0,none⟩)] #[]] (X+h) (PostS w0 X b (noteS q.1 o q.2,q.2)):=by
 obtain ⟨x1,y1,x2,y2,x3,y3,x4,y4,rfl,_,_,_,_⟩:=id ho
 refine spec_of_holdX Tryz.func102 G Tryz.ntmps102 Tryz.results102 G fun fr=>?_
 repeat (first|refine X_seq ?_|refine X_region_lit ?_|refine X_nil ?_|refine X_of G G G ?_|refine X_clo G G G ?_|refine X_ret ?_)
 refine X_box G (c:=[_]) G G G (fun b3=>?_)
 repeat (first|refine X_seq ?_|refine X_region_lit ?_|refine X_nil ?_|refine X_of G G G ?_|refine X_clo G G G ?_|refine X_ret ?_)
 refine X_box G (c:=[_,_,_,_,_,_,_,_,_,_,_,_,_,_,_,_,_]) G G G (fun b4=>?_)
 repeat (first|refine X_seq ?_|refine X_region_lit ?_|refine X_nil ?_|refine X_of G G G ?_|refine X_clo G G G ?_|refine X_ret ?_)
 refine X_alloc (c:=[_,_]) G G G (fun b6=>?_)
 repeat (first|refine X_seq ?_|refine X_region_lit ?_|refine X_nil ?_|refine X_of G G G ?_|refine X_clo G G G ?_|refine X_ret ?_)
 refine X_defer G G G (xs:=[]) G ?_
 repeat (first|refine X_seq ?_|refine X_region_lit ?_|refine X_nil ?_|refine X_of G G G ?_|refine X_clo G G G ?_|refine X_ret ?_)
 refine X_ldA G (vs:=[_,_,_,_,_,_,_,_,_,_,_,_,_,_,_,_,_]) G G G G G ?_
 repeat (first|refine X_seq ?_|refine X_region_lit ?_|refine X_nil ?_|refine X_of G G G ?_|refine X_clo G G G ?_|refine X_ret ?_)
 refine X_call G G (zQ G G G) hk ?_
 rintro vr _ ⟨E,h2,hr,⟨a8,c8,rfl,hor⟩,hs2,rfl⟩
 repeat (first|refine X_seq ?_|refine X_region_lit ?_|refine X_nil ?_|refine X_of G G G ?_|refine X_clo G G G ?_|refine X_ret ?_)
 refine X_stA G G (c':=[_,_]) G G G G G ?_
 repeat (first|refine X_seq ?_|refine X_region_lit ?_|refine X_nil ?_|refine X_of G G G ?_|refine X_clo G G G ?_|refine X_ret ?_)
 refine ⟨161,[.pointer (some ⟨b3,0,none⟩),.pointer (some ⟨b4,0,none⟩),.pointer (some ⟨b6,0,none⟩)],[],_,_,_,rfl,⟨inferInstance⟩,noteD_spec w0 (X+E) b b3 b4 b6 q.1 h2 o (.slice x1 o.parts.length y1) (.slice x2 o.reads.length y2) (.slice x3 o.writes.length y3) (.slice x4 o.data.length y4) q.2 hr a8 c8 hs2 hor hz hd hrd,yK.out,?_⟩
 rintro _ ⟨E2,h3,hs3,rfl⟩
 exact ⟨[_],X+(E+E2)+h3+hr,_,⟨⟨_,rfl,zL G G G⟩,trivial⟩,⟨E+E2,h3,hr,⟨a8,c8,rfl,hor⟩,by rw [← hadd_assoc]; exact hs3,rfl⟩,yK.out⟩
end Sl
end Go.Proofs.YtpkealohodeifaaGreat
