/-
  What shardBytes.proved hangs on, part 6 of 8: NilF, ShPh, Fl2, ShLa, ShLb, ShLc, ShLe, ShCp, ShRa, ShRb, ShRc.
-/
import Derived.Test.YtpkealohodeifaaGreatBy1
import Derived.Test.YtpkealohodeifaaGreatBy5
import Derived.Test.YtpkealohodeifaaGreatBy3
set_option linter.unusedVariables false
set_option linter.unusedSimpArgs false
namespace Go.Proofs.YtpkealohodeifaaGreat
open Go Go.RowKit
namespace Sl
section
variable {P:Program} {g:Env}
theorem run_eqf {t:TypeId} {ps rs:Array TypeId} {vr:Bool} (h:P.underlying t=some (.func ps rs vr)) (d:Nat) (w:World) {v:Value} {r:Bool} (hv:(v=.nilFunc∧r=true)∨((∃ a b c,v=.func a b c)∧r=false)):(Op.equalIn (d+1) t v .nilFunc).run P w=.ok r w:=by
 rcases hv with ⟨rfl,rfl⟩|⟨⟨a',b',c',rfl⟩,rfl⟩<;>simp [Op.equalIn,run_underlying h]
theorem run_eqlf {t:TypeId} {ps rs:Array TypeId} {vr:Bool} (h:P.underlying t=some (.func ps rs vr)) (w:World) {v:Value} {r:Bool} (hv:(v=.nilFunc∧r=true)∨((∃ a b c,v=.func a b c)∧r=false)):(binOp .eql t v .nilFunc).run P w=.ok (.bool r) w:=by
 have h1:(Op.equal t v .nilFunc).run P w=.ok r w:=run_eqf h 9999 w hv
 rcases hv with ⟨rfl,rfl⟩|⟨⟨a',b',c',rfl⟩,rfl⟩<;>(simp only [binOp]; simp [h1])
theorem pv_eql_nilfunc {t ty:TypeId} {ps rs:Array TypeId} {vr:Bool} [hu:Und P t (.func ps rs vr)] {x y:Operand} {v:Value} {r:Bool} (hx:ev g x=some v) (hy:ev g y=some .nilFunc)
  (hv:(v=.nilFunc∧r=true)∨((∃ a b c,v=.func a b c)∧r=false)):PV P g (.binOp .eql t x y ty) (.bool r):=by
 intro o a w m ho ha; unfold execOp
 have h2:=run_eqlf (w:=w) hu.out hv
 have h3:(eqGuard .eql t x y v .nilFunc).run P w=.ok () w:=by
  rcases hv with ⟨rfl,rfl⟩|⟨⟨a',b',c',rfl⟩,rfl⟩<;>(unfold eqGuard; split<;>simp_all)
 simp only [ho,ha.ev hx,ha.ev hy,Sem.run_bind,h3,Result.andThen_ok,h2,Sem.run_pure]
end
end Sl
end Go.Proofs.YtpkealohodeifaaGreat
namespace Go.Proofs.YtpkealohodeifaaGreat
open Go Go.RowKit
namespace Sl
set_option maxHeartbeats 16000000
set_option maxRecDepth 4000
set_option synthInstance.maxHeartbeats 400000
set_option synthInstance.maxSize 100000
attribute [local irreducible] Hold HoldL HoldW
theorem doV_nil {b:Nat} {k:Int} (h:¬ doesK k):doV b k=.nilFunc:=by
 unfold doesK at h
 unfold doV
 rw [if_neg (by omega),if_neg (by omega),if_neg (by omega),if_neg (by omega),if_neg (by omega),if_neg (by omega)]
theorem step_fun (b:Nat) (k:Int) (h:doesK k):∃ f,doV b k=.func (.func f) #[.pointer (some ⟨b,0,none⟩)] #[]∧Nonempty (Fun Tryz.prog f)∧True:=by
 unfold doesK at h
 unfold doV
 by_cases k1:k=1
 ·rw [if_pos k1]; exact ⟨_,rfl,⟨inferInstance⟩,trivial⟩
 rw [if_neg k1]
 by_cases k2:k=2
 ·rw [if_pos k2]; exact ⟨_,rfl,⟨inferInstance⟩,trivial⟩
 rw [if_neg k2]
 by_cases k3:k=3
 ·rw [if_pos k3]; exact ⟨_,rfl,⟨inferInstance⟩,trivial⟩
 rw [if_neg k3]
 by_cases k5:k=5
 ·rw [if_pos k5]; exact ⟨_,rfl,⟨inferInstance⟩,trivial⟩
 rw [if_neg k5]
 by_cases k6:k=6
 ·rw [if_pos k6]; exact ⟨_,rfl,⟨inferInstance⟩,trivial⟩
 rw [if_neg k6,if_pos (show k=7 by omega)]
 exact ⟨_,rfl,⟨inferInstance⟩,trivial⟩
theorem step_spec (w0:World) (X:Hp) (b:Nat) (s:Shd) (h:Hp) (o:Opn) (e:List Value) (n:Nat) (hs:ShAt w0 X b s h) (ho:Rep.rd w0 X o e) (hg:Good n s) (hn:n≤190) (hok:OpOk o) (hk:doesK o.kind) :
  ∃ f,doV b o.kind=.func (.func f) #[.pointer (some ⟨b,0,none⟩)] #[]∧Nonempty (Fun Tryz.prog f)∧Spec Tryz.prog w0 f [.pointer (some ⟨b,0,none⟩),.agg e.toArray] (X+h) (PostS w0 X b (stepF s o)):=by
 have hz:=hg.sized hn
 unfold doesK at hk
 unfold doV stepF
 by_cases k1:o.kind=1
 ·rw [if_pos k1,if_pos k1]
  exact ⟨_,rfl,⟨inferInstance⟩,read22_spec w0 X b s h o e hs ⟨X,ho⟩ hz hg.ok⟩
 rw [if_neg k1,if_neg k1]
 by_cases k2:o.kind=2
 ·rw [if_pos k2,if_pos k2]
  have hsp:0≤o.lo∧o.lo≤o.hi∧o.hi≤64:=by
   obtain ⟨s1,s2⟩:=hok.span
   by_cases hsn:o.snap=0
   ·have:=s1 k2 hsn; omega
   ·have:=s2 (.inl ⟨k2,hsn⟩); omega
  have hrg:=hg.rng
  exact ⟨_,rfl,⟨inferInstance⟩,prepare22_spec w0 X b s h o e hs ho hz hg.ok hsp (by omega) (by have:=hok.reads.1; omega) (by have:=hok.writes.1; omega)⟩
 rw [if_neg k2,if_neg k2]
 by_cases k3:o.kind=3
 ·rw [if_pos k3,if_pos k3]
  exact ⟨_,rfl,⟨inferInstance⟩,decide22_spec w0 X b s h o e hs ho hz hg.ok (fun p hp=>⟨by have:=(hg.prs p hp).writes.1; omega,fun w hw=>by have:=((hg.prs p hp).writes.2 w hw).2; omega⟩)⟩
 rw [if_neg k3,if_neg k3]
 by_cases k5:o.kind=5
 ·rw [if_pos k5,if_pos k5]
  exact ⟨_,rfl,⟨inferInstance⟩,freeze22_spec w0 X b s h o e hs ⟨X,ho⟩ hz hg.ok (fun u hu=>by have:=(hg.outs u hu).2; omega)⟩
 rw [if_neg k5,if_neg k5]
 by_cases k6:o.kind=6
 ·rw [if_pos k6,if_pos k6]
  have hsp:=hok.span.2 (.inr (.inr (.inl k6)))
  exact ⟨_,rfl,⟨inferInstance⟩,install22_spec w0 X b s h o e hs ho hz hg.ok (by have:=hok.data; omega) (fun l k hp hc=>part_apart hg hsp (part_some hp).1 hc)⟩
 rw [if_neg k6,if_neg k6,if_pos (show o.kind=7 by omega)]
 exact ⟨_,rfl,⟨inferInstance⟩,drop22_spec w0 X b s h o e hs ⟨X,ho⟩ hz⟩
def ApplyP (w0:World) (X:Hp) (a:Shd × Res) (r:Value) (h':Hp):Prop:=∃ (e1 e2:List Value) (D h hr:Hp),r=.tuple #[.agg e1.toArray,.agg e2.toArray]∧OwShd w0 D a.1 e1 h∧OwR w0 a.2 (.agg e2.toArray) hr∧X+(D+h+hr)=h'
theorem apply22_spec (w0:World) (X:Hp) (s:Shd) (es:List Value) (o:Opn) (eo:List Value) (n:Nat) (hs:RdShd w0 X s es) (ho:Rep.rd w0 X o eo) (hg:Good n s) (hn:n≤190) (hni:NumsIn o) (hso:SmallO o) :
  Spec Tryz.prog w0 23 [.agg es.toArray,.agg eo.toArray] X (ApplyP w0 X (applyF s o)):=by
 have hcopy:=copyOf_spec w0 X s es hs (hg.shdIn (by omega)) (hg.enc_len (by omega))
 have hcop:=copyOp_spec w0 X o eo ho hso
 have hz:=hg.sized hn
 have hz5:=hz.sess
 obtain ⟨l1,l2,l3,l4,l5⟩:=id hso
 have hchk:=check21_spec w0 X o eo ho hni ⟨by omega,by omega,by omega⟩
 obtain ⟨p1,q1,p2,q2,p3,q3,p4,q4,p5,q5,p6,q6,p7,q7,rfl,_,_,_,_,_,_,_⟩:=id hs
 obtain ⟨x1,y1,x2,y2,x3,y3,x4,y4,rfl,_,_,_,_⟩:=id ho
 refine zN Tryz.func23 G Tryz.ntmps23 Tryz.results23 G fun fr=>?_
 repeat (first|refine zF ?_|refine zB ?_|refine zE ?_|refine L_ldA G (vs:=[_,_,_,_,_,_,_,_,_,_]) G G G G G ?_|refine L_box G (c:=[_,_,_,_,_,_,_,_,_,_]) G G G (fun _=>?_)|refine L_box G (c:=[_,_,_,_,_,_,_,_,_,_,_,_,_,_,_,_,_]) G G G (fun _=>?_)|refine L_alloc (c:=[_,_]) G G G (fun _=>?_)|refine L_alloc (c:=[_,_,_,_,_,_,_,_,_,_]) G G G (fun _=>?_))
 rename_i b2 b3 b4 b5
 refine zY G G (zQ G G G) hcopy ?_
 rintro _ _ ⟨b,D,h,rfl,hat,rfl⟩
 repeat (first|refine zF ?_|refine zB ?_|refine zE ?_|refine zK G G G ?_|refine L_ldA G (vs:=[_,_,_,_,_,_,_,_,_,_,_,_,_,_,_,_,_]) G G G G G ?_)
 refine zY G G (zQ G G G) hchk ?_
 rintro _ _ ⟨rfl,rfl⟩
 obtain ⟨a1,c1,a2,c2,a3,c3,a4,c4,a5,c5,a6,c6,a7,c7,h1,h2,h3,h4,h5,h6,h7,o1,o2,o3,o4,o5,o6,o7,rfl⟩:=id hat
 repeat (first|refine zF ?_|refine zB ?_|refine zE ?_|refine zK G G G ?_)
 refine yG G G (pv_neq G G) (fun n1=>?_) (fun n1=>?_)
 ·repeat (first|refine zF ?_|refine zE ?_|refine zJ G ?_)
  refine yC [5,6,7] [0,1,2,3,4,5,6,7] (by kernel_rfl) G (by kernel_rfl) (by kernel_rfl) ?_
  repeat (first|refine yI G G G G G ?_|refine yE G G G G (yA G G G) ?_|refine W_load G G G G (yF G) (zL (vs:=[_,_,_,_,_,_,_,_,_,_]) G G G) ?_)
  refine W_call G G G G (zQ G G G) (code22_spec w0 (checkF o)) (Kept.all _) ?_
  rintro _ _ ⟨rfl,rfl⟩
  refine ⟨(by repeat (first|exact trivial|exact zG G (zS G)|exact zL G G G|exact zX G (by assumption) G|exact zH G (by assumption) G|exact zH G (by assumption) (by assumption)|refine ⟨?_,?_⟩)),?_⟩
  skip
  refine W_eff G G G G (ev_storeA (vs:=[_,_,_,_,_,_,_,_,_,_]) G G G G (c:=[_,_,_,_,_,_,_,_,_,_]) (Nat.le_of_ble_eq_true G) (c':=[_,_,_,_,_,_,_,_,_,_]) G) (Kept.all _) ?_
  rintro _ _ rfl
  refine ⟨(by repeat (first|exact trivial|exact zG G (zS G)|exact zL G G G|exact zX G (by assumption) G|exact zH G (by assumption) G|exact zH G (by assumption) (by assumption)|refine ⟨?_,?_⟩)),?_⟩
  skip
  refine W_eff G G G G (ev_storeA (vs:=[_,_]) G G G G (c:=[_,_]) (Nat.le_of_ble_eq_true G) (c':=[_,_]) G) (Kept.all _) ?_
  rintro _ _ rfl
  refine ⟨(by repeat (first|exact trivial|exact zG G (zS G)|exact zL G G G|exact zX G (by assumption) G|exact zH G (by assumption) G|exact zH G (by assumption) (by assumption)|refine ⟨?_,?_⟩)),?_⟩
  repeat (refine yJ ?_)
  repeat (refine zM ?_)
  rw [show applyF s o=(s,⟨(checkF o),[]⟩) by unfold applyF; rw [if_pos n1]]
  exact ⟨[_,_],X+(D+(h1+h2+h3+h4+h5+h6+h7)),_,⟨⟨_,rfl,zL G G G⟩,⟨_,rfl,zL G G G⟩,trivial⟩,⟨cellsS s (.slice a1 s.blocks.length c1) (.slice a2 s.kept.length c2) (.slice a3 s.locks.length c3) (.slice a4 s.preps.length c4) (.slice a5 s.dead.length c5) (.slice a6 s.outs.length c6) (.slice a7 s.sess.length c7),[.int .i64 ((checkF o)),.slice none 0 0],D,_,0,rfl,⟨a1,c1,a2,c2,a3,c3,a4,c4,a5,c5,a6,c6,a7,c7,h1,h2,h3,h4,h5,h6,h7,rfl,o1,o2,o3.plainL,o4,o5.plainI,o6,o7,rfl⟩,OwR.code _ _,by rw [yB]⟩,yK.out⟩
 ·have n1':=Classical.byContradiction n1
  have hok:=check_ok n1'
  repeat (first|refine zF ?_|refine zB ?_|refine zE ?_|refine zK G G G ?_|refine zZ G G G G G ?_|refine L_ld G G G G G ?_|refine zP ?_|refine zI G ?_)
  refine zY G G (zQ G G G) (doing_spec w0 b o.kind) ?_
  rintro _ _ ⟨rfl,rfl⟩
  by_cases n2:doesK o.kind
  rotate_left
  ·rw [doV_nil n2]
   repeat (first|refine zF ?_|refine zB ?_|refine zE ?_|refine zK G G G ?_)
   refine yH G G (pv_eql_nilfunc (r:=true) G G (.inl ⟨rfl,rfl⟩)) ?_
   repeat (first|refine zF ?_|refine zE ?_|refine zJ G ?_)
   refine yC [4,5,6] [0,1,2,3,4,5,6] (by kernel_rfl) G (by kernel_rfl) (by kernel_rfl) ?_
   repeat (first|refine yI G G G G G ?_|refine yE G G G G (yA G G G) ?_|refine W_load G G G G (yF G) (zL (vs:=[_,_,_,_,_,_,_,_,_,_]) G G G) ?_)
   refine W_call G G G G (zQ G G G) (code22_spec w0 13) (Kept.all _) ?_
   rintro _ _ ⟨rfl,rfl⟩
   refine ⟨(by repeat (first|exact trivial|exact zG G (zS G)|exact zL G G G|exact zX G (by assumption) G|exact zH G (by assumption) G|exact zH G (by assumption) (by assumption)|refine ⟨?_,?_⟩)),?_⟩
   skip
   refine W_eff G G G G (ev_storeA (vs:=[_,_,_,_,_,_,_,_,_,_]) G G G G (c:=[_,_,_,_,_,_,_,_,_,_]) (Nat.le_of_ble_eq_true G) (c':=[_,_,_,_,_,_,_,_,_,_]) G) (Kept.all _) ?_
   rintro _ _ rfl
   refine ⟨(by repeat (first|exact trivial|exact zG G (zS G)|exact zL G G G|exact zX G (by assumption) G|exact zH G (by assumption) G|exact zH G (by assumption) (by assumption)|refine ⟨?_,?_⟩)),?_⟩
   skip
   refine W_eff G G G G (ev_storeA (vs:=[_,_]) G G G G (c:=[_,_]) (Nat.le_of_ble_eq_true G) (c':=[_,_]) G) (Kept.all _) ?_
   rintro _ _ rfl
   refine ⟨(by repeat (first|exact trivial|exact zG G (zS G)|exact zL G G G|exact zX G (by assumption) G|exact zH G (by assumption) G|exact zH G (by assumption) (by assumption)|refine ⟨?_,?_⟩)),?_⟩
   repeat (refine yJ ?_)
   repeat (refine zM ?_)
   rw [show applyF s o=(s,⟨13,[]⟩) by unfold applyF; rw [if_neg n1,if_pos n2]]
   exact ⟨[_,_],X+(D+(h1+h2+h3+h4+h5+h6+h7)),_,⟨⟨_,rfl,zL G G G⟩,⟨_,rfl,zL G G G⟩,trivial⟩,⟨cellsS s (.slice a1 s.blocks.length c1) (.slice a2 s.kept.length c2) (.slice a3 s.locks.length c3) (.slice a4 s.preps.length c4) (.slice a5 s.dead.length c5) (.slice a6 s.outs.length c6) (.slice a7 s.sess.length c7),[.int .i64 (13),.slice none 0 0],D,_,0,rfl,⟨a1,c1,a2,c2,a3,c3,a4,c4,a5,c5,a6,c6,a7,c7,h1,h2,h3,h4,h5,h6,h7,rfl,o1,o2,o3.plainL,o4,o5.plainI,o6,o7,rfl⟩,OwR.code _ _,by rw [yB]⟩,yK.out⟩
  ·obtain ⟨f0,hdo0,hfun0,-⟩:=step_fun b o.kind n2
   have e0:applyF s o=if (askF s.sess o.client o.seq).2=7 then (s,(askF s.sess o.client o.seq).1) else if (askF s.sess o.client o.seq).2=15 then (s,⟨15,[]⟩) else (noteS (stepF s o).1 o (stepF s o).2,(stepF s o).2):=by unfold applyF; rw [if_neg n1,if_neg (not_not_intro n2)]
   rw [hdo0]
   repeat (first|refine zF ?_|refine zB ?_|refine zE ?_|refine zK G G G ?_)
   refine yH G G (pv_eql_nilfunc (r:=false) G G (.inr ⟨⟨_,_,_,rfl⟩,rfl⟩)) ?_
   repeat (first|refine zF ?_|refine zE ?_|refine zP ?_|refine zI G ?_)
   refine hold_drawV [9,13,14] [0,1,2,3,4,5,6,7,8,9,10,11,12,13,14,15] 13 9 [.int .i64 0,.slice none 0 0] 51 (by kernel_rfl) G (by kernel_rfl) (by kernel_rfl) (by kernel_rfl) ?_
   repeat (first|refine V_of G G (fun _=>rfl) G G G G ?_|refine V_pure G (yA G G G) (fun _=>yA G G G) G G G G ?_|refine V_load G G (fun _=>rfl) (zG G (zS G)) G G G G ?_)
   refine V_call G G G G G (zQ G G G) (fun _=>zQ G G G) (ask18_spec w0 (D+h7) (.slice a7 s.sess.length c7) s.sess o.client o.seq o7.rd0 (by omega) (fun x hx=>by have:=(hg.sess x hx).2.2; omega)) (Kept.all _) G G G G ?_
   rintro _ _ ⟨a9,c9,h9,rfl,o9,rfl⟩
   refine ⟨(by repeat (first|exact trivial|exact zG G (zS G)|exact zL G G G|exact zX G (by assumption) G|exact zH G (by assumption) G|exact zH G (by assumption) (by assumption)|refine ⟨?_,?_⟩)),?_⟩
   repeat (refine V_of G G (fun _=>rfl) G G G G ?_)
   refine V_now G G G G (fun b9=>?_)
   refine W_eff G G G G (ev_storeA (vs:=[_,_]) G G G G (c:=[_,_]) (Nat.le_of_ble_eq_true G) (c':=[_,_]) G) (Kept.all _) ?_
   rintro _ _ rfl
   refine ⟨(by repeat (first|exact trivial|exact zG G (zS G)|exact zL G G G|exact zX G (by assumption) G|exact zH G (by assumption) G|exact zH G (by assumption) (by assumption)|refine ⟨?_,?_⟩)),?_⟩
   repeat (first|refine yJ ?_|refine yI G G G G G ?_)
   generalize askF s.sess o.client o.seq=ask at *
   obtain ⟨ar,ae⟩:=ask
   simp only at *
   repeat (first|refine zF ?_|refine zR ?_|refine zB ?_|refine zE ?_|refine zK G G G ?_)
   refine yG G G (pv_eql G G) (fun n3=>?_) (fun n3=>?_)
   ·repeat (first|refine zF ?_|refine zE ?_|refine zK G G G ?_|refine zJ G ?_)
    refine yC [5,6] [0,1,2,3,4,5,6] (by kernel_rfl) G (by kernel_rfl) (by kernel_rfl) ?_
    repeat (first|refine yI G G G G G ?_|refine yE G G G G (yA G G G) ?_|refine W_load G G G G (yF G) (zL (vs:=[_,_]) G G G) ?_|refine W_load G G G G (yF G) (zL (vs:=[_,_,_,_,_,_,_,_,_,_]) G G G) ?_)
    refine W_eff G G G G (ev_storeA (vs:=[_,_,_,_,_,_,_,_,_,_]) G G G G (c:=[_,_,_,_,_,_,_,_,_,_]) (Nat.le_of_ble_eq_true G) (c':=[_,_,_,_,_,_,_,_,_,_]) G) (Kept.all _) ?_
    rintro _ _ rfl
    refine ⟨(by repeat (first|exact trivial|exact zG G (zS G)|exact zL G G G|exact zX G (by assumption) G|exact zH G (by assumption) G|exact zH G (by assumption) (by assumption)|refine ⟨?_,?_⟩)),?_⟩
    skip
    refine W_eff G G G G (ev_storeA (vs:=[_,_]) G G G G (c:=[_,_]) (Nat.le_of_ble_eq_true G) (c':=[_,_]) G) (Kept.all _) ?_
    rintro _ _ rfl
    refine ⟨(by repeat (first|exact trivial|exact zG G (zS G)|exact zL G G G|exact zX G (by assumption) G|exact zH G (by assumption) G|exact zH G (by assumption) (by assumption)|refine ⟨?_,?_⟩)),?_⟩
    repeat (refine yJ ?_)
    repeat (refine zM ?_)
    rw [e0,if_pos n3]
    exact ⟨[_,_],X+(D+(h1+h2+h3+h4+h5+h6+h7)+h9),_,⟨⟨_,rfl,zL G G G⟩,⟨_,rfl,zL G G G⟩,trivial⟩,⟨cellsS s (.slice a1 s.blocks.length c1) (.slice a2 s.kept.length c2) (.slice a3 s.locks.length c3) (.slice a4 s.preps.length c4) (.slice a5 s.dead.length c5) (.slice a6 s.outs.length c6) (.slice a7 s.sess.length c7),[.int .i64 ar.code,.slice a9 ar.data.length c9],D,_,h9,rfl,⟨a1,c1,a2,c2,a3,c3,a4,c4,a5,c5,a6,c6,a7,c7,h1,h2,h3,h4,h5,h6,h7,rfl,o1,o2,o3.plainL,o4,o5.plainI,o6,o7,rfl⟩,⟨a9,c9,rfl,o9⟩,rfl⟩,yK.out⟩
   ·repeat (first|refine zF ?_|refine zB ?_|refine zE ?_|refine zK G G G ?_|refine zI G ?_)
    refine yG G G (pv_eql G G) (fun n4=>?_) (fun n4=>?_)
    ·subst n4
     repeat (first|refine zF ?_|refine zE ?_|refine zK G G G ?_|refine zJ G ?_)
     refine yC [5,6,7] [0,1,2,3,4,5,6,7] (by kernel_rfl) G (by kernel_rfl) (by kernel_rfl) ?_
     repeat (first|refine yI G G G G G ?_|refine yE G G G G (yA G G G) ?_|refine W_load G G G G (yF G) (zL (vs:=[_,_,_,_,_,_,_,_,_,_]) G G G) ?_)
     refine W_call G G G G (zQ G G G) (code22_spec w0 15) (Kept.all _) ?_
     rintro _ _ ⟨rfl,rfl⟩
     refine ⟨(by repeat (first|exact trivial|exact zG G (zS G)|exact zL G G G|exact zX G (by assumption) G|exact zH G (by assumption) G|exact zH G (by assumption) (by assumption)|refine ⟨?_,?_⟩)),?_⟩
     skip
     refine W_eff G G G G (ev_storeA (vs:=[_,_,_,_,_,_,_,_,_,_]) G G G G (c:=[_,_,_,_,_,_,_,_,_,_]) (Nat.le_of_ble_eq_true G) (c':=[_,_,_,_,_,_,_,_,_,_]) G) (Kept.all _) ?_
     rintro _ _ rfl
     refine ⟨(by repeat (first|exact trivial|exact zG G (zS G)|exact zL G G G|exact zX G (by assumption) G|exact zH G (by assumption) G|exact zH G (by assumption) (by assumption)|refine ⟨?_,?_⟩)),?_⟩
     skip
     refine W_eff G G G G (ev_storeA (vs:=[_,_]) G G G G (c:=[_,_]) (Nat.le_of_ble_eq_true G) (c':=[_,_]) G) (Kept.all _) ?_
     rintro _ _ rfl
     refine ⟨(by repeat (first|exact trivial|exact zG G (zS G)|exact zL G G G|exact zX G (by assumption) G|exact zH G (by assumption) G|exact zH G (by assumption) (by assumption)|refine ⟨?_,?_⟩)),?_⟩
     repeat (refine yJ ?_)
     repeat (refine zM ?_)
     rw [show applyF s o=(s,⟨15,[]⟩) by rw [e0,if_neg n3,if_pos G]]
     exact ⟨[_,_],X+(D+(h1+h2+h3+h4+h5+h6+h7)),_,⟨⟨_,rfl,zL G G G⟩,⟨_,rfl,zL G G G⟩,trivial⟩,⟨cellsS s (.slice a1 s.blocks.length c1) (.slice a2 s.kept.length c2) (.slice a3 s.locks.length c3) (.slice a4 s.preps.length c4) (.slice a5 s.dead.length c5) (.slice a6 s.outs.length c6) (.slice a7 s.sess.length c7),[.int .i64 (15),.slice none 0 0],D,_,0,rfl,⟨a1,c1,a2,c2,a3,c3,a4,c4,a5,c5,a6,c6,a7,c7,h1,h2,h3,h4,h5,h6,h7,rfl,o1,o2,o3.plainL,o4,o5.plainI,o6,o7,rfl⟩,OwR.code _ _,by rw [yB]⟩,yK.out⟩
    ·rw [if_neg n3,if_neg n4] at e0
     repeat (first|refine zF ?_|refine zB ?_|refine zE ?_|refine zK G G G ?_|refine zP ?_|refine zI G ?_|refine L_ldA G (vs:=[_,_,_,_,_,_,_,_,_,_,_,_,_,_,_,_,_]) G G G G G ?_)
     refine zY G G (zQ G G G) hcop ?_
     rintro _ _ ⟨e',D2,rfl,ho',rfl⟩
     have ho2:Rep.rd w0 (D+D2) o e':=Rep.mono (hadd_comm _ _) ho'
     obtain ⟨f,hdo,⟨hfun⟩,hsp⟩:=step_spec w0 (D+D2) b s _ o e' n (hat.mono rfl) ho2 hg hn hok n2
     obtain rfl:f0=f:=by rw [hdo0] at hdo; simpa using hdo
     obtain ⟨gq,hq⟩:=stepF_good hg hn hok
     have hdo22:=do22_spec w0 (D+D2) b s _ o e' f0 (stepF s o) ho2 hsp (by rw [stepF_sess]; omega) (fun x hx=>by have:=(gq.sess x hx).2.2; omega) (by have:=hq.2; omega)
     repeat (refine zK G G G ?_)
     refine zY G G (zQ G G G) hdo22 ?_
     rintro _ _ ⟨E,h',hr,⟨a8,c8,rfl,o8⟩,hs2,rfl⟩
     rw [e0]
     generalize noteS (stepF s o).1 o (stepF s o).2=s2 at *
     obtain ⟨d1,i1,d2,i2,d3,i3,d4,i4,d5,i5,d6,i6,d7,i7,k1,k2,k3,k4,k5,k6,k7,u1,u2,u3,u4,u5,u6,u7,rfl⟩:=id hs2
     repeat (first|refine zF ?_|refine zE ?_|refine L_stA G (vs:=[_,_]) G G G G (c':=[_,_]) G G ?_|refine L_alloc (c:=[_,_]) G G G (fun _=>?_))
     refine yC [5,6] [0,1,2,3,4,5,6] (by kernel_rfl) G (by kernel_rfl) (by kernel_rfl) ?_
     repeat (first|refine yI G G G G G ?_|refine yE G G G G (yA G G G) ?_|refine W_load G G G G (yF G) (zL (vs:=[_,_]) G G G) ?_|refine W_load G G G G (yF G) (zL (vs:=[_,_,_,_,_,_,_,_,_,_]) G G G) ?_)
     refine W_eff G G G G (ev_storeA (vs:=[_,_,_,_,_,_,_,_,_,_]) G G G G (c:=[_,_,_,_,_,_,_,_,_,_]) (Nat.le_of_ble_eq_true G) (c':=[_,_,_,_,_,_,_,_,_,_]) G) (Kept.all _) ?_
     rintro _ _ rfl
     refine ⟨(by repeat (first|exact trivial|exact zG G (zS G)|exact zL G G G|exact zX G (by assumption) G|exact zH G (by assumption) G|exact zH G (by assumption) (by assumption)|refine ⟨?_,?_⟩)),?_⟩
     skip
     refine W_eff G G G G (ev_storeA (vs:=[_,_]) G G G G (c:=[_,_]) (Nat.le_of_ble_eq_true G) (c':=[_,_]) G) (Kept.all _) ?_
     rintro _ _ rfl
     refine ⟨(by repeat (first|exact trivial|exact zG G (zS G)|exact zL G G G|exact zX G (by assumption) G|exact zH G (by assumption) G|exact zH G (by assumption) (by assumption)|refine ⟨?_,?_⟩)),?_⟩
     repeat (refine yJ ?_)
     repeat (refine zM ?_)
     exact ⟨[_,_],X+(D+D2+E+(k1+k2+k3+k4+k5+k6+k7)+hr),_,⟨⟨_,rfl,zL G G G⟩,⟨_,rfl,zL G G G⟩,trivial⟩,⟨cellsS s2 (.slice d1 s2.blocks.length i1) (.slice d2 s2.kept.length i2) (.slice d3 s2.locks.length i3) (.slice d4 s2.preps.length i4) (.slice d5 s2.dead.length i5) (.slice d6 s2.outs.length i6) (.slice d7 s2.sess.length i7),[.int .i64 (stepF s o).2.code,.slice a8 (stepF s o).2.data.length c8],D+D2+E,_,hr,rfl,
      ⟨d1,i1,d2,i2,d3,i3,d4,i4,d5,i5,d6,i6,d7,i7,k1,k2,k3,k4,k5,k6,k7,rfl,u1,u2,u3.plainL,u4,u5.plainI,u6,u7,rfl⟩,⟨a8,c8,rfl,o8⟩,rfl⟩,yK.out⟩
end Sl
end Go.Proofs.YtpkealohodeifaaGreat
namespace Go.Proofs.YtpkealohodeifaaGreat
open Go Go.RowKit
namespace Sl
theorem PV.sub {P:Program} {g g':Env} {op:Op} {v:Value} (h:PV P g op v) (hs:Sub g' g):PV P g' op v:=fun o a w n ho ha=>h o a w n ho (ha.sub hs)
theorem LV.sub {g g':Env} {op:Op} {t:TypeId} {ad:Addr} (h:LV g op t ad) (hs:Sub g' g):LV g' op t ad:=fun o a n ho ha=>h o a n ho (ha.sub hs)
theorem CV.sub {P:Program} {g g':Env} {op:Op} {k:FuncId} {args:List Value} (h:CV P g op k args) (hs:Sub g' g):CV P g' op k args:=fun o a w n ho ha=>h o a w n ho (ha.sub hs)
theorem sub_new {g:Env} {d:Nat} {u:Value} (h:look g d=none):Sub ((d,u)::g) g:=by
 intro x y hx
 simp only [look]
 by_cases h1:d=x
 ·subst h1; rw [h] at hx; cases hx
 ·rw [if_neg h1]; exact hx
theorem sub_cons' {g g':Env} (d:Nat) (u:Value) (h:Sub g g'):Sub ((d,u)::g) ((d,u)::g'):=by
 intro x y hx
 simp only [look] at hx ⊢
 by_cases h1:d=x
 ·subst h1; simpa using hx
 ·rw [if_neg h1] at hx ⊢; exact h x y hx
def okV2 (ops:Array Oper) (eff:List Nat) (j1 j2:Nat):Array Bool→List Nat→Bool
 | listed,[]=>(Region.ready .any ops listed).all (fun k=>k==j1||k==j2)&&!(Region.ready .any ops listed).isEmpty
 | listed,i::s=>(if eff.contains i then (Region.ready .any ops listed).all (fun k=>k==i||(k==j1||k==j2))&&(Region.ready .any ops listed).contains i else (Region.ready .any ops listed).contains i&&Region.free .any ops listed i)&&okV2 ops eff j1 j2 (listed.setIfInBounds i true) s
section
variable {P:Program} {n:Nat} {w0:World} {Q:Post} {g:Env} {L:Hp} {ops:Array Oper} {eff:List Nat} {W:Watched} {listed:Array Bool} {s:List Nat} {j d:Nat} {z:List Value} {t:TypeId}
theorem holdV_env {g':Env} (hs:Sub g g') (h:HoldV P n w0 ops eff j d z t W listed s Q g' L):HoldV P n w0 ops eff j d z t W listed s Q g L :=
 ⟨fun h1 h2 h3 h4 h5 h6 a w ha hw=>h.1 h1 h2 h3 h4 h5 h6 a w (ha.sub hs) hw,fun b=>holdW_env (sub_cons' d _ hs) (h.2 b)⟩
theorem V_stA {i:Nat} {st:TypeId} {x y:Operand} {ty:TypeId} {pos:String} {af:Array Edge} {sz by':Nat} {zs:Value} [hI:Inf P st sz by' zs] {tyj:TypeId} {posj:String} {afj:Array Edge} {szj byj:Nat} {zv:Value} [hJ:Inf P t szj byj zv] (hj:ops[j]?=some ⟨some d,.alloc t,tyj,posj,afj,none⟩) (hz:zv.cells.toList=z) (heffj:eff.contains j=true) (hdj:decide (d<n)=true)
  (hi:ops[i]?=some ⟨none,.store st x y,ty,pos,af,none⟩) {b off:Nat} {c c':List Value} {e:TypeId} {vs:List Value} {R:Hp}
  (hx:ev g x=some (.pointer (some ⟨b,off,none⟩))) (hy:ev g y=some (.agg vs.toArray)) (hf:look g d=none) [hb:HasPt b L (.cells c.toArray e (0,0)) R] (hl:(vs.length==sz)=true) (h1:vs.all (·.oneCell')=true) (hc:off+vs.length≤c.length) (hc':spliceL off vs c=c') {W':Watched} (hW':Kept ops i W W')
  (hij:(i==j)=false) (heff:eff.contains i=true)
  (hk:AllLoads P w0 (pt b (.cells c'.toArray e (0,0))+R) W'∧HoldV P n w0 ops eff j d z t W' (listed.setIfInBounds i true) s Q g (pt b (.cells c'.toArray e (0,0))+R)):HoldV P n w0 ops eff j d z t W listed (i::s) Q g L:=by
 have hne:i≠j:=by simpa using hij
 have her:(i::s).erase j=i::s.erase j:=by rw [List.erase_cons_tail]; simpa using hij
 have sx:∀ {g':Env} {o:Operand} {v:Value},Sub g' g→ev g o=some v→ev g' o=some v:=by
  intro g' o v hs h
  cases o with
  | tmp k=>exact hs k v h
  | const k=>exact h
  | global k=>exact h
  | func k=>exact h
 have B:∀ b2,HoldW P n w0 ops eff W (listed.setIfInBounds j true) ((i::s).erase j) Q ((d,.pointer (some ⟨b2,0,none⟩))::g) (pt b2 (.cells z.toArray t (0,0))+L):=by
  intro b2
  rw [her]
  haveI:HasPt b (pt b2 (.cells z.toArray t (0,0))+L) (.cells c.toArray e (0,0)) (pt b2 (.cells z.toArray t (0,0))+R):=⟨by rw [hb.out]; ac_rfl⟩
  refine W_eff hi heff G G (ev_storeA (c:=c) (sx (sub_new hf) hx) (sx (sub_new hf) hy) hl h1 hc hc') hW' ?_
  rintro _ _ rfl
  obtain ⟨k1,k2⟩:=hk
  have e1:pt b (.cells c'.toArray e (0,0))+(pt b2 (.cells z.toArray t (0,0))+R)=pt b2 (.cells z.toArray t (0,0))+(pt b (.cells c'.toArray e (0,0))+R):=by ac_rfl
  rw [e1]
  refine ⟨k1.extra,?_⟩
  have:=k2.2 b2
  rw [setIf_comm hne] at this
  exact this
 refine ⟨?_,B⟩
 intro hok hokB hcl hq hsel hW a w ha hst
 simp only [okV,hij,heff,Bool.and_eq_true,if_true,Bool.false_eq_true,if_false] at hok
 obtain ⟨⟨g1,g2⟩,g3⟩:=hok
 refine ⟨fun e=>(by rw [e] at g2; simp at g2),fun q hq'=>?_⟩
 have hqq:=List.all_eq_true.1 g1 q hq'
 simp only [Bool.or_eq_true,beq_iff_eq] at hqq
 rcases hqq with hqq|hqq
 ·subst hqq
  unfold wpOp
  simp only [hi,wanted_of (o:=⟨none,.store st x y,ty,pos,af,none⟩) (g:=g) ha G,if_true]
  left
  unfold Oper.wp
  obtain ⟨v,w',L',hrun,rfl,hst'⟩:=ev_storeA (P:=P) (w0:=w0) (c:=c) hx hy hl h1 hc hc' ⟨none,.store st x y,ty,pos,af,none⟩ a w n rfl ha hst
  obtain ⟨k1,k2⟩:=hk
  have hh:=watch_holds k1.all hst'
  rw [her] at hokB
  simp only [okOrder,heff,if_true,Bool.and_eq_true] at hokB
  have hB2:=hokB.2
  rw [setIf_comm hne.symm] at hB2
  have fin:(∀ p∈(W.at P).past ops q,p.2 w')∧WG P ops (lift n w0 Q) s.length ((W.at P).past ops q) (listed.setIfInBounds q true) (a.put none v) w' :=
   ⟨fun p hp=>(hW'.at p hp).elim (hh p) (fun h=>h w'),WG_sub _ _ _ _ _ _ hW'.at (k2.1 g3 hB2 (hcl.set hq') hq hsel k1.all _ w' (ha.put (dst:=none) G v) hst')⟩
  rcases hrun with hrun|⟨hrun,rfl⟩<;>rw [hrun]<;>exact fin
 ·subst hqq
  unfold wpOp
  simp only [hj,wanted_of (o:=⟨some d,.alloc t,tyj,posj,afj,none⟩) (g:=g) ha G,if_true]
  left
  unfold Oper.wp
  obtain ⟨v,w',L',hrun,⟨b2,rfl,rfl⟩,hst'⟩:=ev_alloc (P:=P) (w0:=w0) (L:=L) (g:=g) (t:=t) ⟨some d,.alloc t,tyj,posj,afj,none⟩ a w n rfl ha hst
  have e1:pt b2 (.cells zv.cells t)=pt b2 (.cells z.toArray t (0,0)):=by rw [← hz]
  rw [e1] at hst'
  have hWx:∀ p∈W,Loads P w0 (pt b2 (.cells z.toArray t (0,0))+L) p.2.1 p.2.2.1 p.2.2.2:=fun p hp=>(hW p hp).extra
  have hB:=B b2 hokB (hcl.set hq') hq hsel hWx (a.put (some d) (.pointer (some ⟨b2,0,none⟩))) w' (ha.put (by simpa using hdj) _) hst'
  have hlen:((i::s).erase q).length=s.length:=by
   rw [List.length_erase_of_mem (List.mem_cons_of_mem _ (okV_mem g3))]; simp
  rw [hlen] at hB
  have hsub:∀ p∈(W.at P).past ops q,p∈W.at P∨∀ w,p.2 w:=fun p hp=>.inl (List.mem_filter.1 hp).1
  have hh:=watch_holds hWx hst'
  rcases hrun with hrun|⟨hrun,hu⟩
  ·rw [hrun]
   exact ⟨fun p hp=>hh p (List.mem_filter.1 hp).1,WG_sub _ _ _ _ _ _ hsub hB⟩
  ·cases hu
end
def HoldA2 (P:Program) (n:Nat) (w0:World) (ops:Array Oper) (eff:List Nat) (j1 j2:Nat) (sA sB:List Nat) (W:Watched) (listed:Array Bool) (s:List Nat) (Q:Post) (g:Env) (L:Hp):Prop :=
 okV2 ops eff j1 j2 listed s=true→okV ops eff j2 (listed.setIfInBounds j1 true) (s++sA)=true→okOrder ops eff ((listed.setIfInBounds j1 true).setIfInBounds j2 true) ((s++sA).erase j2)=true →
 okV ops eff j1 (listed.setIfInBounds j2 true) (s++sB)=true→okOrder ops eff ((listed.setIfInBounds j2 true).setIfInBounds j1 true) ((s++sB).erase j1)=true→sA.length=sB.length →
 Closed ops listed→NP Q→Region.noSelect ops=true→(∀ p∈W,Loads P w0 L p.2.1 p.2.2.1 p.2.2.2)→∀ a w,Fits n a g→St w0 w L→WG P ops (lift n w0 Q) ((s++sA).length+1) (W.at P) listed a w
structure HoldV2 (P:Program) (n:Nat) (w0:World) (ops:Array Oper) (eff:List Nat) (j1 d1:Nat) (z1:List Value) (t1:TypeId) (j2 d2:Nat) (z2:List Value) (t2:TypeId) (sA sB:List Nat) (W:Watched) (listed:Array Bool) (s:List Nat) (Q:Post) (g:Env) (L:Hp):Prop where
 ini:HoldA2 P n w0 ops eff j1 j2 sA sB W listed s Q g L
 one:∀ b,HoldV P n w0 ops eff j2 d2 z2 t2 W (listed.setIfInBounds j1 true) (s++sA) Q ((d1,.pointer (some ⟨b,0,none⟩))::g) (pt b (.cells z1.toArray t1 (0,0))+L)
 two:∀ b,HoldV P n w0 ops eff j1 d1 z1 t1 W (listed.setIfInBounds j2 true) (s++sB) Q ((d2,.pointer (some ⟨b,0,none⟩))::g) (pt b (.cells z2.toArray t2 (0,0))+L)
section
variable {P:Program} {n:Nat} {w0:World} {Q:Post} {g:Env} {L:Hp} {ops:Array Oper} {eff:List Nat} {W:Watched} {listed:Array Bool} {s sA sB:List Nat} {j1 d1 j2 d2:Nat} {z1 z2:List Value} {t1 t2:TypeId}
theorem put_sub {g:Env} {d:Nat} {u v:Value} {dst:Option Nat} (hdd:dst.all (· != d)=true):Sub (putE ((d,u)::g) dst v) ((d,u)::putE g dst v):=sub_putE hdd
theorem V2_take {i:Nat} {dst:Option Nat} {op:Op} {ty:TypeId} {pos:String} {af:Array Edge} {v:Value} (S:World→Prop) (W':Watched) (hi:ops[i]?=some ⟨dst,op,ty,pos,af,none⟩) (h1:(i==j1)=false) (h2:(i==j2)=false) (heff:eff.contains i=false) (hd:dst.all (·<n)=true) (hdd1:dst.all (· != d1)=true) (hdd2:dst.all (· != d2)=true) (hf1:look g d1=Option.none) (hf2:look g d2=Option.none) (h12:(d1==d2)=false)
  (hW':∀ p∈(i,S)::Watched.at P W,p∈Watched.at P W'∨∀ w,p.2 w) (hS:∀ w,St w0 w L→S w) (hlW:∀ L',(∀ w,St w0 w L'→St w0 w L)→(∀ p∈W,Loads P w0 L' p.2.1 p.2.2.1 p.2.2.2)→∀ p∈W',Loads P w0 L' p.2.1 p.2.2.1 p.2.2.2)
  (hy:∀ g',Sub g' g→∀ a,Fits n a g'→YieldsIf P ops S ⟨dst,op,ty,pos,af,none⟩ v a)
  (hk:HoldV2 P n w0 ops eff j1 d1 z1 t1 j2 d2 z2 t2 sA sB W' (listed.setIfInBounds i true) s Q (putE g dst v) L):HoldV2 P n w0 ops eff j1 d1 z1 t1 j2 d2 z2 t2 sA sB W listed (i::s) Q g L:=by
 have n1:i≠j1:=by simpa using h1
 have n2:i≠j2:=by simpa using h2
 have hlk1:∀ u,look ((d2,u)::g) d1=Option.none:=fun u=>by simp only [look]; rw [if_neg (by intro h; rw [h] at h12; simp at h12)]; exact hf1
 have hlk2:∀ u,look ((d1,u)::g) d2=Option.none:=fun u=>by simp only [look]; rw [if_neg (by simpa using h12)]; exact hf2
 refine ⟨?_,fun b=>?_,fun b=>?_⟩
 ·intro hok cA cA' cB cB' hl hc hq hsel hW a w ha hst
  simp only [okV2,heff,Bool.and_eq_true,Bool.false_eq_true,if_false] at hok
  obtain ⟨⟨q1,q2⟩,q3⟩:=hok
  have hr:i∈Region.ready .any ops listed:=by simpa using q1
  have erA:((i::s)++sA).erase j2=i::(s++sA).erase j2:=by rw [List.cons_append,List.erase_cons_tail]; simpa using h2
  have erB:((i::s)++sB).erase j1=i::(s++sB).erase j1:=by rw [List.cons_append,List.erase_cons_tail]; simpa using h1
  rw [List.cons_append] at cA cB
  simp only [okV,h1,h2,heff,Bool.and_eq_true,Bool.false_eq_true,if_false] at cA cB
  rw [erA] at cA'
  rw [erB] at cB'
  simp only [okOrder,Bool.and_eq_true] at cA' cB'
  have dA:=cA.2; have dB:=cB.2; have dA':=cA'.2; have dB':=cB'.2
  rw [setIf_comm n1.symm] at dA
  rw [setIf_comm n2.symm] at dB
  rw [setIf_comm n2.symm,setIf_comm n1.symm] at dA'
  rw [setIf_comm n1.symm,setIf_comm n2.symm] at dB'
  have H:=hk.ini q3 dA dA' dB dB' hl (hc.set hr) hq hsel (hlW L (fun _ h=>h) hW) (a.put dst v) w (ha.put hd v) hst
  rw [show (i::s++sA).length+1=((s++sA).length+1)+1 by simp]
  exact WG_first hi (Region.noSelect_spec hsel) (fun c a w=>lift_np c a w) _ (W.at P) listed a w hc
   (fun k ok hok' hne' hun hno=>Region.free_spec hi q2 k ok hok' hne' hun hno) hr (hy g (Sub.refl _) a ha) (hS w hst) (watch_holds hW hst) (WG_sub _ _ _ _ _ _ hW' H)
 ·have hkb:=hk.one b
  rw [setIf_comm n1] at hkb
  refine V_take S W' h2 hi heff hd hdd2 hW' (fun w hw=>hS w hw.right) (fun L' hL' hW=>hlW L' (fun w hw=>(hL' w hw).right) hW) (hy _ (sub_new hf1)) (fun b2=>hy _ (fun t' v' hh=>sub_new (hlk2 _) t' v' (sub_new hf1 t' v' hh))) (holdV_env (put_sub hdd1) hkb)
 ·have hkb:=hk.two b
  rw [setIf_comm n2] at hkb
  refine V_take S W' h1 hi heff hd hdd1 hW' (fun w hw=>hS w hw.right) (fun L' hL' hW=>hlW L' (fun w hw=>(hL' w hw).right) hW) (hy _ (sub_new hf2)) (fun b2=>hy _ (fun t' v' hh=>sub_new (hlk1 _) t' v' (sub_new hf2 t' v' hh))) (holdV_env (put_sub hdd2) hkb)
theorem V2_pure {i:Nat} {dst:Option Nat} {op:Op} {ty:TypeId} {pos:String} {af:Array Edge} {v:Value} (hi:ops[i]?=some ⟨dst,op,ty,pos,af,none⟩) (h:PV P g op v) (h1:(i==j1)=false) (h2:(i==j2)=false) (heff:eff.contains i=false) (hd:dst.all (·<n)=true) (hdd1:dst.all (· != d1)=true) (hdd2:dst.all (· != d2)=true) (hf1:look g d1=Option.none) (hf2:look g d2=Option.none) (h12:(d1==d2)=false)
  (hk:HoldV2 P n w0 ops eff j1 d1 z1 t1 j2 d2 z2 t2 sA sB W (listed.setIfInBounds i true) s Q (putE g dst v) L):HoldV2 P n w0 ops eff j1 d1 z1 t1 j2 d2 z2 t2 sA sB W listed (i::s) Q g L :=
 V2_take (fun _=>True) W hi h1 h2 heff hd hdd1 hdd2 hf1 hf2 h12 (fun p hp=>(List.mem_cons.1 hp).elim (fun e=>.inr fun _=>by rw [e]; trivial) .inl) (fun _ _=>trivial) (fun _ _ h=>h)
  (fun g' hs a ha=>.inl ⟨wanted_of (o:=⟨dst,op,ty,pos,af,none⟩) (g:=g') ha G,fun w _=>h.sub hs ⟨dst,op,ty,pos,af,none⟩ a w n G ha⟩) hk
theorem V2_of {i:Nat} {dst:Option Nat} {op:Op} {ty:TypeId} {pos:String} {af:Array Edge} {v:Value} (hi:ops[i]?=some ⟨dst,op,ty,pos,af,none⟩) (h:pureV g op=some v) (h1:(i==j1)=false) (h2:(i==j2)=false) (heff:eff.contains i=false) (hd:dst.all (·<n)=true) (hdd1:dst.all (· != d1)=true) (hdd2:dst.all (· != d2)=true) (hf1:look g d1=Option.none) (hf2:look g d2=Option.none) (h12:(d1==d2)=false)
  (hk:HoldV2 P n w0 ops eff j1 d1 z1 t1 j2 d2 z2 t2 sA sB W (listed.setIfInBounds i true) s Q (putE g dst v) L):HoldV2 P n w0 ops eff j1 d1 z1 t1 j2 d2 z2 t2 sA sB W listed (i::s) Q g L:=V2_pure hi (pv_of h) h1 h2 heff hd hdd1 hdd2 hf1 hf2 h12 hk
theorem V2_load {i:Nat} {dst:Option Nat} {op:Op} {ty tl:TypeId} {pos:String} {af:Array Edge} {v:Value} {ad:Addr} (hi:ops[i]?=some ⟨dst,op,ty,pos,af,none⟩) (h:LV g op tl ad) (hr:Loads P w0 L tl ad v) (h1:(i==j1)=false) (h2:(i==j2)=false) (heff:eff.contains i=false) (hd:dst.all (·<n)=true) (hdd1:dst.all (· != d1)=true) (hdd2:dst.all (· != d2)=true) (hf1:look g d1=Option.none) (hf2:look g d2=Option.none) (h12:(d1==d2)=false)
  (hk:HoldV2 P n w0 ops eff j1 d1 z1 t1 j2 d2 z2 t2 sA sB ((i,tl,ad,v)::W) (listed.setIfInBounds i true) s Q (putE g dst v) L):HoldV2 P n w0 ops eff j1 d1 z1 t1 j2 d2 z2 t2 sA sB W listed (i::s) Q g L :=
 V2_take (fun w=>(loadVar tl ad).run P w=.ok v w) ((i,tl,ad,v)::W) hi h1 h2 heff hd hdd1 hdd2 hf1 hf2 h12 (fun p hp=>.inl hp) (fun w hst=>hr w hst)
  (fun L' hL' hW p hp=>by
   rcases List.mem_cons.1 hp with rfl|hp
   ·exact fun w hw=>hr w (hL' w hw)
   ·exact hW p hp)
  (fun g' hs a ha=>.inl ⟨wanted_of (o:=⟨dst,op,ty,pos,af,none⟩) (g:=g') ha G,fun w hS=>by rw [h.sub hs ⟨dst,op,ty,pos,af,none⟩ a n G ha]; simp only [Sem.run_bind,hS,Result.andThen_ok,Sem.run_pure]⟩) hk
theorem V2_first {W:Watched} {tyj1 tyj2:TypeId} {pos1 pos2:String} {af1 af2:Array Edge} {sz1 by1 sz2 by2:Nat} {zv1 zv2:Value} [I1:Inf P t1 sz1 by1 zv1] [I2:Inf P t2 sz2 by2 zv2] (hj1:ops[j1]?=some ⟨some d1,.alloc t1,tyj1,pos1,af1,none⟩) (hj2:ops[j2]?=some ⟨some d2,.alloc t2,tyj2,pos2,af2,none⟩)
  (hz1:zv1.cells.toList=z1) (hz2:zv2.cells.toList=z2) (hd1:decide (d1<n)=true) (hd2:decide (d2<n)=true)
  (A:∀ b,HoldV P n w0 ops eff j2 d2 z2 t2 W (listed.setIfInBounds j1 true) (s++sA) Q ((d1,.pointer (some ⟨b,0,none⟩))::g) (pt b (.cells z1.toArray t1 (0,0))+L))
  (B:∀ b,HoldV P n w0 ops eff j1 d1 z1 t1 W (listed.setIfInBounds j2 true) (s++sB) Q ((d2,.pointer (some ⟨b,0,none⟩))::g) (pt b (.cells z2.toArray t2 (0,0))+L))
  (cA:okV ops eff j2 (listed.setIfInBounds j1 true) (s++sA)=true) (cA':okOrder ops eff ((listed.setIfInBounds j1 true).setIfInBounds j2 true) ((s++sA).erase j2)=true)
  (cB:okV ops eff j1 (listed.setIfInBounds j2 true) (s++sB)=true) (cB':okOrder ops eff ((listed.setIfInBounds j2 true).setIfInBounds j1 true) ((s++sB).erase j1)=true) (hl:sA.length=sB.length)
  (hc:Closed ops listed) (hq:NP Q) (hsel:Region.noSelect ops=true) (hW:∀ p∈W,Loads P w0 L p.2.1 p.2.2.1 p.2.2.2) {a:Act} {w:World} (ha:Fits n a g) (hst:St w0 w L) {q:Nat} (hr:q∈Region.ready .any ops listed) (hqq:q=j1∨q=j2) :
  wpOp P ops (lift n w0 Q) q (fun a' w'=>(∀ p∈(W.at P).past ops q,p.2 w')∧WG P ops (lift n w0 Q) (s++sA).length ((W.at P).past ops q) (listed.setIfInBounds q true) a' w') a w:=by
 have hsub:∀ p∈(W.at P).past ops q,p∈W.at P∨∀ w,p.2 w:=fun p hp=>.inl (List.mem_filter.1 hp).1
 rcases hqq with rfl|rfl
 ·unfold wpOp
  simp only [hj1,wanted_of (o:=⟨some d1,.alloc t1,tyj1,pos1,af1,none⟩) (g:=g) ha G,if_true]
  left
  unfold Oper.wp
  obtain ⟨v,w',L',hrun,⟨b,rfl,rfl⟩,hst'⟩:=ev_alloc (P:=P) (w0:=w0) (L:=L) (g:=g) (t:=t1) ⟨some d1,.alloc t1,tyj1,pos1,af1,none⟩ a w n rfl ha hst
  have e1:pt b (.cells zv1.cells t1)=pt b (.cells z1.toArray t1 (0,0)):=by rw [← hz1]
  rw [e1] at hst'
  have hWx:∀ p∈W,Loads P w0 (pt b (.cells z1.toArray t1 (0,0))+L) p.2.1 p.2.2.1 p.2.2.2:=fun p hp=>(hW p hp).extra
  have hB:=(A b).1 cA cA' (hc.set hr) hq hsel hWx (a.put (some d1) (.pointer (some ⟨b,0,none⟩))) w' (ha.put (by simpa using hd1) _) hst'
  have hh:=watch_holds hWx hst'
  rcases hrun with hrun|⟨hrun,hu⟩
  ·rw [hrun]
   exact ⟨fun p hp=>hh p (List.mem_filter.1 hp).1,WG_sub _ _ _ _ _ _ hsub hB⟩
  ·cases hu
 ·unfold wpOp
  simp only [hj2,wanted_of (o:=⟨some d2,.alloc t2,tyj2,pos2,af2,none⟩) (g:=g) ha G,if_true]
  left
  unfold Oper.wp
  obtain ⟨v,w',L',hrun,⟨b,rfl,rfl⟩,hst'⟩:=ev_alloc (P:=P) (w0:=w0) (L:=L) (g:=g) (t:=t2) ⟨some d2,.alloc t2,tyj2,pos2,af2,none⟩ a w n rfl ha hst
  have e1:pt b (.cells zv2.cells t2)=pt b (.cells z2.toArray t2 (0,0)):=by rw [← hz2]
  rw [e1] at hst'
  have hWx:∀ p∈W,Loads P w0 (pt b (.cells z2.toArray t2 (0,0))+L) p.2.1 p.2.2.1 p.2.2.2:=fun p hp=>(hW p hp).extra
  have hB:=(B b).1 cB cB' (hc.set hr) hq hsel hWx (a.put (some d2) (.pointer (some ⟨b,0,none⟩))) w' (ha.put (by simpa using hd2) _) hst'
  have hh:=watch_holds hWx hst'
  rw [show (s++sA).length=(s++sB).length by rw [List.length_append,List.length_append,hl]]
  rcases hrun with hrun|⟨hrun,hu⟩
  ·rw [hrun]
   exact ⟨fun p hp=>hh p (List.mem_filter.1 hp).1,WG_sub _ _ _ _ _ _ hsub hB⟩
  ·cases hu
theorem V2_now {tyj1 tyj2:TypeId} {pos1 pos2:String} {af1 af2:Array Edge} {sz1 by1 sz2 by2:Nat} {zv1 zv2:Value} [I1:Inf P t1 sz1 by1 zv1] [I2:Inf P t2 sz2 by2 zv2] (hj1:ops[j1]?=some ⟨some d1,.alloc t1,tyj1,pos1,af1,none⟩) (hj2:ops[j2]?=some ⟨some d2,.alloc t2,tyj2,pos2,af2,none⟩)
  (hz1:zv1.cells.toList=z1) (hz2:zv2.cells.toList=z2) (hd1:decide (d1<n)=true) (hd2:decide (d2<n)=true)
  (A:∀ b,HoldV P n w0 ops eff j2 d2 z2 t2 W (listed.setIfInBounds j1 true) sA Q ((d1,.pointer (some ⟨b,0,none⟩))::g) (pt b (.cells z1.toArray t1 (0,0))+L))
  (B:∀ b,HoldV P n w0 ops eff j1 d1 z1 t1 W (listed.setIfInBounds j2 true) sB Q ((d2,.pointer (some ⟨b,0,none⟩))::g) (pt b (.cells z2.toArray t2 (0,0))+L)) :
  HoldV2 P n w0 ops eff j1 d1 z1 t1 j2 d2 z2 t2 sA sB W listed [] Q g L:=by
 refine ⟨?_,A,B⟩
 intro hok cA cA' cB cB' hl hc hq hsel hW a w ha hst
 simp only [okV2,Bool.and_eq_true] at hok
 obtain ⟨q1,q2⟩:=hok
 refine ⟨fun e=>(by rw [e] at q2; simp at q2),fun q hq'=>?_⟩
 have hqq:=List.all_eq_true.1 q1 q hq'
 simp only [Bool.or_eq_true,beq_iff_eq] at hqq
 exact V2_first (s:=[]) hj1 hj2 hz1 hz2 hd1 hd2 A B cA cA' cB cB' hl hc hq hsel hW ha hst hq' hqq
theorem V2_call {i:Nat} {dst:Option Nat} {op:Op} {ty:TypeId} {pos:String} {af:Array Edge} {tyj1 tyj2:TypeId} {pos1 pos2:String} {af1 af2:Array Edge} {sz1 by1 sz2 by2:Nat} {zv1 zv2:Value} [I1:Inf P t1 sz1 by1 zv1] [I2:Inf P t2 sz2 by2 zv2] (hj1:ops[j1]?=some ⟨some d1,.alloc t1,tyj1,pos1,af1,none⟩) (hj2:ops[j2]?=some ⟨some d2,.alloc t2,tyj2,pos2,af2,none⟩)
  (hz1:zv1.cells.toList=z1) (hz2:zv2.cells.toList=z2) (he1:eff.contains j1=true) (he2:eff.contains j2=true) (hd1:decide (d1<n)=true) (hd2:decide (d2<n)=true)
  (hi:ops[i]?=some ⟨dst,op,ty,pos,af,none⟩) {k:FuncId} {args:List Value} (h:CV P g op k args) {pre R:Hp} {post:Value→Hp→Prop} (hs:Spec P w0 k args pre post) [hL:yK pre L R] {W':Watched} (hW':Kept ops i W W')
  (h1:(i==j1)=false) (h2:(i==j2)=false) (heff:eff.contains i=true) (hd:dst.all (·<n)=true) (hdd1:dst.all (· != d1)=true) (hdd2:dst.all (· != d2)=true) (hf1:look g d1=Option.none) (hf2:look g d2=Option.none) (h12:(d1==d2)=false)
  (hk:∀ v h,post v h→AllLoads P w0 (h+R) W'∧HoldV2 P n w0 ops eff j1 d1 z1 t1 j2 d2 z2 t2 sA sB W' (listed.setIfInBounds i true) s Q (putE g dst v) (h+R)) :
  HoldV2 P n w0 ops eff j1 d1 z1 t1 j2 d2 z2 t2 sA sB W listed (i::s) Q g L:=by
 have n1:i≠j1:=by simpa using h1
 have n2:i≠j2:=by simpa using h2
 have hlk1:∀ u,look ((d2,u)::g) d1=Option.none:=fun u=>by simp only [look]; rw [if_neg (by intro h; rw [h] at h12; simp at h12)]; exact hf1
 have hlk2:∀ u,look ((d1,u)::g) d2=Option.none:=fun u=>by simp only [look]; rw [if_neg (by simpa using h12)]; exact hf2
 have A:∀ b,HoldV P n w0 ops eff j2 d2 z2 t2 W (listed.setIfInBounds j1 true) (i::(s++sA)) Q ((d1,.pointer (some ⟨b,0,none⟩))::g) (pt b (.cells z1.toArray t1 (0,0))+L):=by
  intro b
  haveI:yK pre (pt b (.cells z1.toArray t1 (0,0))+L) (pt b (.cells z1.toArray t1 (0,0))+R):=⟨by rw [hL.out]; ac_rfl⟩
  refine V_call hj2 hz2 he2 hd2 hi (h.sub (sub_new hf1)) (fun p=>h.sub (fun t' v' hh=>sub_new (hlk2 _) t' v' (sub_new hf1 t' v' hh))) hs hW' h2 heff hd hdd2 fun v hh hp=>?_
  obtain ⟨k1,k2⟩:=hk v hh hp
  have e:hh+(pt b (.cells z1.toArray t1 (0,0))+R)=pt b (.cells z1.toArray t1 (0,0))+(hh+R):=by ac_rfl
  rw [e]
  refine ⟨k1.extra,?_⟩
  have:=k2.one b
  rw [setIf_comm n1] at this
  exact holdV_env (put_sub hdd1) this
 have B:∀ b,HoldV P n w0 ops eff j1 d1 z1 t1 W (listed.setIfInBounds j2 true) (i::(s++sB)) Q ((d2,.pointer (some ⟨b,0,none⟩))::g) (pt b (.cells z2.toArray t2 (0,0))+L):=by
  intro b
  haveI:yK pre (pt b (.cells z2.toArray t2 (0,0))+L) (pt b (.cells z2.toArray t2 (0,0))+R):=⟨by rw [hL.out]; ac_rfl⟩
  refine V_call hj1 hz1 he1 hd1 hi (h.sub (sub_new hf2)) (fun p=>h.sub (fun t' v' hh=>sub_new (hlk1 _) t' v' (sub_new hf2 t' v' hh))) hs hW' h1 heff hd hdd1 fun v hh hp=>?_
  obtain ⟨k1,k2⟩:=hk v hh hp
  have e:hh+(pt b (.cells z2.toArray t2 (0,0))+R)=pt b (.cells z2.toArray t2 (0,0))+(hh+R):=by ac_rfl
  rw [e]
  refine ⟨k1.extra,?_⟩
  have:=k2.two b
  rw [setIf_comm n2] at this
  exact holdV_env (put_sub hdd2) this
 refine ⟨?_,A,B⟩
 intro hok cA cA' cB cB' hl hc hq hsel hW a w ha hst
 simp only [okV2,heff,Bool.and_eq_true,if_true] at hok
 obtain ⟨⟨q1,q2⟩,q3⟩:=hok
 refine ⟨fun e=>(by rw [e] at q2; simp at q2),fun q hq'=>?_⟩
 have hqq:=List.all_eq_true.1 q1 q hq'
 simp only [Bool.or_eq_true,beq_iff_eq] at hqq
 rcases hqq with hqq|hqq
 ·subst hqq
  have erA:((q::s)++sA).erase j2=q::(s++sA).erase j2:=by rw [List.cons_append,List.erase_cons_tail]; simpa using h2
  have erB:((q::s)++sB).erase j1=q::(s++sB).erase j1:=by rw [List.cons_append,List.erase_cons_tail]; simpa using h1
  rw [List.cons_append] at cA cB
  simp only [okV,h1,h2,heff,Bool.and_eq_true,if_true,Bool.false_eq_true,if_false] at cA cB
  rw [erA] at cA'
  rw [erB] at cB'
  simp only [okOrder,heff,if_true,Bool.and_eq_true] at cA' cB'
  have dA:=cA.2; have dB:=cB.2; have dA':=cA'.2; have dB':=cB'.2
  rw [setIf_comm n1.symm] at dA
  rw [setIf_comm n2.symm] at dB
  rw [setIf_comm n2.symm,setIf_comm n1.symm] at dA'
  rw [setIf_comm n1.symm,setIf_comm n2.symm] at dB'
  unfold wpOp
  simp only [hi,wanted_of (o:=⟨dst,op,ty,pos,af,none⟩) (g:=g) ha G,if_true]
  left
  unfold Oper.wp
  rw [h ⟨dst,op,ty,pos,af,none⟩ a w n G ha]
  have hst2:=hst
  rw [hL.out] at hst2
  refine Calls.mono (hs w R hst2) ?_
  rintro e w' ⟨v,h',rfl,hp,hst'⟩
  obtain ⟨k1,k2⟩:=hk v h' hp
  have hh:=watch_holds k1.all hst'
  exact ⟨fun p hp=>(hW'.at p hp).elim (hh p) (fun h=>h w'),WG_sub _ _ _ _ _ _ hW'.at (k2.ini q3 dA dA' dB dB' hl (hc.set hq') hq hsel k1.all _ w' (ha.put hd v) hst')⟩
 ·exact V2_first (s:=i::s) hj1 hj2 hz1 hz2 hd1 hd2 A B cA cA' cB cB' hl hc hq hsel hW ha hst hq' hqq
theorem hold_drawV2 {id:Nat} [hq:NP Q] (eff s sA sB:List Nat) (j1 d1:Nat) (z1:List Value) (t1:TypeId) (j2 d2:Nat) (z2:List Value) (t2:TypeId) (hm:P.follows .mixedOrders=true) (hl:(s++sA).length+1=ops.size) (hl2:sA.length=sB.length) (hs:Region.noSelect ops=true)
  (hok:okV2 ops eff j1 j2 (Array.replicate ops.size false) s=true) (cA:okV ops eff j2 ((Array.replicate ops.size false).setIfInBounds j1 true) (s++sA)=true) (cA':okOrder ops eff (((Array.replicate ops.size false).setIfInBounds j1 true).setIfInBounds j2 true) ((s++sA).erase j2)=true)
  (cB:okV ops eff j1 ((Array.replicate ops.size false).setIfInBounds j2 true) (s++sB)=true) (cB':okOrder ops eff (((Array.replicate ops.size false).setIfInBounds j2 true).setIfInBounds j1 true) ((s++sB).erase j1)=true)
  (h:HoldV2 P n w0 ops eff j1 d1 z1 t1 j2 d2 z2 t2 sA sB [] (Array.replicate ops.size false) s Q g L):Hold P n w0 (.region id ops true) Q g L:=by
 intro a w ha hst
 refine wp_region_any hm (WG_any _ [] _ _ _ ?_)
 rw [← hl]
 have:=h.ini hok cA cA' cB cB' hl2 (Closed.start ops _) hq hs (by simp) a { w with drawn:=w.drawn+1 } ha hst.drew
 rw [← hl] at this
 exact this
end
end Sl
end Go.Proofs.YtpkealohodeifaaGreat
namespace Go.Proofs.YtpkealohodeifaaGreat
open Go Go.RowKit
namespace Sl
set_option maxHeartbeats 16000000
set_option maxRecDepth 4000
set_option synthInstance.maxHeartbeats 400000
set_option synthInstance.maxSize 100000
attribute [local irreducible] Hold HoldL HoldW
theorem take_more {α:Type} {xs ys:List α} {k:Nat} (hx:k<xs.length) (hy:k<ys.length) (h:xs.take k=ys.take k) (e:xs[k]=ys[k]):xs.take (k+1)=ys.take (k+1):=by
 rw [List.take_succ_eq_append_getElem hx,List.take_succ_eq_append_getElem hy,h,e]
theorem sameB_spec (w0:World) (X:Hp) (v u:Value) (xs ys:List Bt) (hv:RdL w0 X v xs) (hu:RdL w0 X u ys) (hl:xs.length≤1000000000) (hl2:ys.length≤1000000000) :
  Spec Tryz.prog w0 19 [v,u] X (fun r h'=>r=.bool (decide (xs=ys))∧X=h'):=by
 obtain ⟨a,c,rfl⟩:=hv.shape
 obtain ⟨a2,c2,rfl⟩:=hu.shape
 refine zN Tryz.func19 G Tryz.ntmps19 Tryz.results19 G fun fr=>?_
 repeat (first|refine zF ?_|refine zB ?_|refine zE ?_|refine zK G G G ?_|refine L_len G G G ?_)
 refine yG G G (pv_neq G G) (fun n1=>?_) (fun n1=>?_)
 ·repeat (first|refine zF ?_|refine zB ?_|refine zE ?_|refine zK G G G ?_|refine zM ?_|refine zJ G ?_)
  exact ⟨[_],X,_,⟨rfl,trivial⟩,⟨bool_F (fun h=>n1 (by rw [h])),rfl⟩,yK.out⟩
 ·have hll:xs.length=ys.length:=by omega
  repeat (first|refine zF ?_|refine zR ?_|refine zB ?_|refine zE ?_|refine zK G G G ?_|refine zP ?_|refine zI G ?_)
  refine hold_count xs.length (fun k g L=>∃ (R:Hp),g=[(0,.slice a xs.length c),(1,.slice a2 ys.length c2),(5,.int .i64 k)]∧xs.take k=ys.take k∧L=X+fr+R) _ ⟨0,rfl,by simp,(yB _).symm⟩ (by repeat (first|exact zT _|refine zO G ?_)) ?_
  rintro k g L hk ⟨R,rfl,hpre,rfl⟩
  repeat (first|refine zF ?_|refine zB ?_|refine zK G G G ?_|refine L_len G G G ?_)
  refine yG G G (pv_lss G G) (fun n2=>?_) (fun n2=>?_)
  ·have hx:k<xs.length:=by omega
   have hy:k<ys.length:=by omega
   obtain ⟨b2,o2,rfl,e,rfl,hat⟩:=hv.at hx
   obtain ⟨b3,o3,rfl,e',rfl,hat'⟩:=hu.at hy
   repeat (first|refine zF ?_|refine zR ?_|refine zE ?_|refine zP ?_|refine zJ G ?_)
   refine yC [] [0,1,2,3,4,5,6,7,8] (by kernel_rfl) G (by kernel_rfl) (by kernel_rfl) ?_
   repeat (first|refine yI G G G G G ?_|refine W_idx G G G (by omega) G G G ?_|refine W_at G G (by assumption) G G G G G ?_)
   refine W_dec G G G G (pv_neq G G) (fun n3=>?_) (fun n3=>?_)
   ·repeat (refine yJ ?_)
    repeat (first|refine zF ?_|refine zB ?_|refine zE ?_|refine zK G G G ?_|refine zM ?_|refine zJ G ?_)
    exact ⟨[_],X,_,⟨rfl,trivial⟩,⟨bool_F (fun h=>n3 (by subst h; rfl)),rfl⟩,yK.out⟩
   ·have e:xs[k]=ys[k]:=Fin.ext (by omega)
    repeat (refine yJ ?_)
    repeat (first|refine zB ?_|refine zE ?_|refine zK G G G ?_|refine zP ?_|refine zI G ?_|refine L_add G G (by omega) (by omega) G G ?_)
    exact ⟨hx,_,(by repeat (first|exact zT _|refine zO G ?_)),_,rfl,take_more hx hy hpre e,yK.out⟩
  ·repeat (first|refine zF ?_|refine yD ?_|refine zB ?_|refine zE ?_|refine zK G G G ?_|refine zM ?_|refine zI G ?_)
   rw [List.take_of_length_le (by omega),List.take_of_length_le (by omega)] at hpre
   exact ⟨[_],X,_,⟨rfl,trivial⟩,⟨bool_T hpre,rfl⟩,yK.out⟩
theorem sameI_spec (w0:World) (X:Hp) (v u:Value) (xs ys:List Int) (hv:RdL w0 X v xs) (hu:RdL w0 X u ys) (hl:xs.length≤1000000000) (hl2:ys.length≤1000000000) :
  Spec Tryz.prog w0 45 [v,u] X (fun r h'=>r=.bool (decide (xs=ys))∧X=h'):=by
 obtain ⟨a,c,rfl⟩:=hv.shape
 obtain ⟨a2,c2,rfl⟩:=hu.shape
 refine zN Tryz.func45 G Tryz.ntmps45 Tryz.results45 G fun fr=>?_
 repeat (first|refine zF ?_|refine zB ?_|refine zE ?_|refine zK G G G ?_|refine L_len G G G ?_)
 refine yG G G (pv_neq G G) (fun n1=>?_) (fun n1=>?_)
 ·repeat (first|refine zF ?_|refine zB ?_|refine zE ?_|refine zK G G G ?_|refine zM ?_|refine zJ G ?_)
  exact ⟨[_],X,_,⟨rfl,trivial⟩,⟨bool_F (fun h=>n1 (by rw [h])),rfl⟩,yK.out⟩
 ·have hll:xs.length=ys.length:=by omega
  repeat (first|refine zF ?_|refine zR ?_|refine zB ?_|refine zE ?_|refine zK G G G ?_|refine zP ?_|refine zI G ?_)
  refine hold_count xs.length (fun k g L=>∃ (R:Hp),g=[(0,.slice a xs.length c),(1,.slice a2 ys.length c2),(5,.int .i64 k)]∧xs.take k=ys.take k∧L=X+fr+R) _ ⟨0,rfl,by simp,(yB _).symm⟩ (by repeat (first|exact zT _|refine zO G ?_)) ?_
  rintro k g L hk ⟨R,rfl,hpre,rfl⟩
  repeat (first|refine zF ?_|refine zB ?_|refine zK G G G ?_|refine L_len G G G ?_)
  refine yG G G (pv_lss G G) (fun n2=>?_) (fun n2=>?_)
  ·have hx:k<xs.length:=by omega
   have hy:k<ys.length:=by omega
   obtain ⟨b2,o2,rfl,e,rfl,hat⟩:=hv.at hx
   obtain ⟨b3,o3,rfl,e',rfl,hat'⟩:=hu.at hy
   repeat (first|refine zF ?_|refine zR ?_|refine zE ?_|refine zP ?_|refine zJ G ?_)
   refine yC [] [0,1,2,3,4,5,6,7,8] (by kernel_rfl) G (by kernel_rfl) (by kernel_rfl) ?_
   repeat (first|refine yI G G G G G ?_|refine W_idx G G G (by omega) G G G ?_|refine W_at G G (by assumption) G G G G G ?_)
   refine W_dec G G G G (pv_neq G G) (fun n3=>?_) (fun n3=>?_)
   ·repeat (refine yJ ?_)
    repeat (first|refine zF ?_|refine zB ?_|refine zE ?_|refine zK G G G ?_|refine zM ?_|refine zJ G ?_)
    exact ⟨[_],X,_,⟨rfl,trivial⟩,⟨bool_F (fun h=>n3 (by subst h; rfl)),rfl⟩,yK.out⟩
   ·have e:xs[k]=ys[k]:=Classical.byContradiction n3
    repeat (refine yJ ?_)
    repeat (first|refine zB ?_|refine zE ?_|refine zK G G G ?_|refine zP ?_|refine zI G ?_|refine L_add G G (by omega) (by omega) G G ?_)
    exact ⟨hx,_,(by repeat (first|exact zT _|refine zO G ?_)),_,rfl,take_more hx hy hpre e,yK.out⟩
  ·repeat (first|refine zF ?_|refine yD ?_|refine zB ?_|refine zE ?_|refine zK G G G ?_|refine zM ?_|refine zI G ?_)
   rw [List.take_of_length_le (by omega),List.take_of_length_le (by omega)] at hpre
   exact ⟨[_],X,_,⟨rfl,trivial⟩,⟨bool_T hpre,rfl⟩,yK.out⟩
theorem sameL_spec (w0:World) (X:Hp) (v u:Value) (xs ys:List Lk) (hv:RdL w0 X v xs) (hu:RdL w0 X u ys) (hl:xs.length≤1000000000) (hl2:ys.length≤1000000000) :
  Spec Tryz.prog w0 74 [v,u] X (fun r h'=>r=.bool (decide (xs=ys))∧X=h'):=by
 obtain ⟨a,c,rfl⟩:=hv.shape
 obtain ⟨a2,c2,rfl⟩:=hu.shape
 refine zN Tryz.func74 G Tryz.ntmps74 Tryz.results74 G fun fr=>?_
 repeat (first|refine zF ?_|refine zB ?_|refine zE ?_|refine zK G G G ?_|refine L_len G G G ?_)
 refine yG G G (pv_neq G G) (fun n1=>?_) (fun n1=>?_)
 ·repeat (first|refine zF ?_|refine zB ?_|refine zE ?_|refine zK G G G ?_|refine zM ?_|refine zJ G ?_)
  exact ⟨[_],X,_,⟨rfl,trivial⟩,⟨bool_F (fun h=>n1 (by rw [h])),rfl⟩,yK.out⟩
 ·have hll:xs.length=ys.length:=by omega
  repeat (first|refine zF ?_|refine zR ?_|refine zB ?_|refine zE ?_|refine zK G G G ?_|refine zP ?_|refine zI G ?_)
  refine hold_count xs.length (fun k g L=>∃ (R:Hp),g=[(0,.slice a xs.length c),(1,.slice a2 ys.length c2),(5,.int .i64 k)]∧xs.take k=ys.take k∧L=X+fr+R) _ ⟨0,rfl,by simp,(yB _).symm⟩ (by repeat (first|exact zT _|refine zO G ?_)) ?_
  rintro k g L hk ⟨R,rfl,hpre,rfl⟩
  repeat (first|refine zF ?_|refine zB ?_|refine zK G G G ?_|refine L_len G G G ?_)
  refine yG G G (pv_lss G G) (fun n2=>?_) (fun n2=>?_)
  ·have hx:k<xs.length:=by omega
   have hy:k<ys.length:=by omega
   obtain ⟨b2,o2,rfl,e,rfl,hat⟩:=hv.at hx
   obtain ⟨b3,o3,rfl,e',rfl,hat'⟩:=hu.at hy
   repeat (first|refine zF ?_|refine zR ?_|refine zE ?_|refine zP ?_|refine zJ G ?_)
   refine yC [] [0,1,2,3,4,5,6,7,8] (by kernel_rfl) G (by kernel_rfl) (by kernel_rfl) ?_
   repeat (first|refine yI G G G G G ?_|refine W_idx G G G (by omega) G G G ?_|refine W_atA G G (by assumption) G G G G G ?_)
   refine W_bool G G G G (pv_neq_struct (r:=(decide (xs[k].block=ys[k].block)&&(decide (xs[k].txn=ys[k].txn)&&(decide (xs[k].age=ys[k].age)&&((xs[k].write==ys[k].write)&&true))))) G G (by kernel_rfl) (by kernel_rfl) (by kernel_rfl)) (fun h3=>?_) (fun h3=>?_)
   ·repeat (refine yJ ?_)
    repeat (first|refine zF ?_|refine zB ?_|refine zE ?_|refine zK G G G ?_|refine zM ?_|refine zJ G ?_)
    exact ⟨[_],X,_,⟨rfl,trivial⟩,⟨bool_F (fun h=>by subst h; simp at h3),rfl⟩,yK.out⟩
   ·have e:xs[k]=ys[k]:=by
     simp only [Bool.not_eq_false',Bool.and_eq_true,decide_eq_true_eq,beq_iff_eq,and_true] at h3
     obtain ⟨e1,e2,e3,e4⟩:=h3
     have:∀ a b:Lk,a.block=b.block→a.txn=b.txn→a.age=b.age→a.write=b.write→a=b:=by
      rintro ⟨_,_,_,_⟩ ⟨_,_,_,_⟩ rfl rfl rfl rfl; rfl
     exact this _ _ e1 e2 e3 e4
    repeat (refine yJ ?_)
    repeat (first|refine zB ?_|refine zE ?_|refine zK G G G ?_|refine zP ?_|refine zI G ?_|refine L_add G G (by omega) (by omega) G G ?_)
    exact ⟨hx,_,(by repeat (first|exact zT _|refine zO G ?_)),_,rfl,take_more hx hy hpre e,yK.out⟩
  ·repeat (first|refine zF ?_|refine yD ?_|refine zB ?_|refine zE ?_|refine zK G G G ?_|refine zM ?_|refine zI G ?_)
   rw [List.take_of_length_le (by omega),List.take_of_length_le (by omega)] at hpre
   exact ⟨[_],X,_,⟨rfl,trivial⟩,⟨bool_T hpre,rfl⟩,yK.out⟩
theorem sameBlk1_spec (w0:World) (X:Hp) (x y:Blk) (e f:List Value) (he:Rep.rd w0 X x e) (hf:Rep.rd w0 X y f) (hx:x.data.length≤1000000000) (hy:y.data.length≤1000000000) :
  Spec Tryz.prog w0 106 [.agg e.toArray,.agg f.toArray] X (fun r h'=>r=.bool (decide (x=y))∧X=h'):=by
 obtain ⟨a,c,rfl,rx⟩:=he
 obtain ⟨a2,c2,rfl,ry⟩:=hf
 refine zN Tryz.func106 G Tryz.ntmps106 Tryz.results106 G fun fr=>?_
 repeat (first|refine zF ?_|refine zB ?_|refine zE ?_|refine zK G G G ?_|refine zZ G G G G G ?_|refine L_ld G G G G G ?_|refine L_box G (c:=[_,_]) G G G (fun _=>?_))
 refine yG G G (pv_eql G G) (fun q0=>?_) (fun q0=>?_)
 rotate_left
 ·repeat (first|refine zE ?_|refine zK G G G ?_|refine L_skip G G ?_|refine zM ?_)
  exact ⟨[_],X,_,⟨rfl,trivial⟩,⟨bool_F (fun h=>q0 (by rw [h])),rfl⟩,yK.out⟩
 ·repeat (first|refine zK G G G ?_|refine zZ G G G G G ?_|refine L_ld G G G G G ?_)
  skip
  refine zY G G (zQ G G G) (sameB_spec w0 X _ _ x.data y.data rx ry hx hy) ?_
  rintro _ _ ⟨rfl,rfl⟩
  by_cases c0:x.data=y.data
  rotate_left
  ·rw [decide_eq_false c0]
   repeat (first|refine zE ?_|refine zK G G G ?_|refine zM ?_)
   exact ⟨[_],X,_,⟨rfl,trivial⟩,⟨bool_F (fun h=>c0 (by rw [h])),rfl⟩,yK.out⟩
  ·rw [decide_eq_true c0]
   repeat (first|refine zE ?_|refine zK G G G ?_|refine zM ?_)
   exact ⟨[_],X,_,⟨rfl,trivial⟩,⟨bool_T (by cases x; cases y; simp only at q0 c0; subst q0 c0; rfl),rfl⟩,yK.out⟩
theorem sameWr1_spec (w0:World) (X:Hp) (x y:Wr) (e f:List Value) (he:Rep.rd w0 X x e) (hf:Rep.rd w0 X y f) (hx:x.data.length≤1000000000) (hy:y.data.length≤1000000000) :
  Spec Tryz.prog w0 224 [.agg e.toArray,.agg f.toArray] X (fun r h'=>r=.bool (decide (x=y))∧X=h'):=by
 obtain ⟨a,c,rfl,rx⟩:=he
 obtain ⟨a2,c2,rfl,ry⟩:=hf
 refine zN Tryz.func224 G Tryz.ntmps224 Tryz.results224 G fun fr=>?_
 repeat (first|refine zF ?_|refine zB ?_|refine zE ?_|refine zK G G G ?_|refine zZ G G G G G ?_|refine L_ld G G G G G ?_|refine L_box G (c:=[_,_]) G G G (fun _=>?_))
 refine yG G G (pv_eql G G) (fun q0=>?_) (fun q0=>?_)
 rotate_left
 ·repeat (first|refine zE ?_|refine zK G G G ?_|refine L_skip G G ?_|refine zM ?_)
  exact ⟨[_],X,_,⟨rfl,trivial⟩,⟨bool_F (fun h=>q0 (by rw [h])),rfl⟩,yK.out⟩
 ·repeat (first|refine zK G G G ?_|refine zZ G G G G G ?_|refine L_ld G G G G G ?_)
  skip
  refine zY G G (zQ G G G) (sameB_spec w0 X _ _ x.data y.data rx ry hx hy) ?_
  rintro _ _ ⟨rfl,rfl⟩
  by_cases c0:x.data=y.data
  rotate_left
  ·rw [decide_eq_false c0]
   repeat (first|refine zE ?_|refine zK G G G ?_|refine zM ?_)
   exact ⟨[_],X,_,⟨rfl,trivial⟩,⟨bool_F (fun h=>c0 (by rw [h])),rfl⟩,yK.out⟩
  ·rw [decide_eq_true c0]
   repeat (first|refine zE ?_|refine zK G G G ?_|refine zM ?_)
   exact ⟨[_],X,_,⟨rfl,trivial⟩,⟨bool_T (by cases x; cases y; simp only at q0 c0; subst q0 c0; rfl),rfl⟩,yK.out⟩
theorem sameKpt1_spec (w0:World) (X:Hp) (x y:Kpt) (e f:List Value) (he:Rep.rd w0 X x e) (hf:Rep.rd w0 X y f) (hx:x.data.length≤1000000000) (hy:y.data.length≤1000000000) :
  Spec Tryz.prog w0 149 [.agg e.toArray,.agg f.toArray] X (fun r h'=>r=.bool (decide (x=y))∧X=h'):=by
 obtain ⟨a,c,rfl,rx⟩:=he
 obtain ⟨a2,c2,rfl,ry⟩:=hf
 refine zN Tryz.func149 G Tryz.ntmps149 Tryz.results149 G fun fr=>?_
 repeat (first|refine zF ?_|refine zB ?_|refine zE ?_|refine zK G G G ?_|refine zZ G G G G G ?_|refine L_ld G G G G G ?_|refine L_box G (c:=[_,_,_]) G G G (fun _=>?_))
 refine yG G G (pv_eql G G) (fun q0=>?_) (fun q0=>?_)
 rotate_left
 ·repeat (first|refine zE ?_|refine zK G G G ?_|refine L_skip G G ?_|refine zM ?_)
  exact ⟨[_],X,_,⟨rfl,trivial⟩,⟨bool_F (fun h=>q0 (by rw [h])),rfl⟩,yK.out⟩
 ·repeat (first|refine zK G G G ?_|refine zZ G G G G G ?_|refine L_ld G G G G G ?_)
  skip
  refine yG G G (pv_eql G G) (fun q1=>?_) (fun q1=>?_)
  rotate_left
  ·repeat (first|refine zE ?_|refine zK G G G ?_|refine L_skip G G ?_|refine zM ?_)
   exact ⟨[_],X,_,⟨rfl,trivial⟩,⟨bool_F (fun h=>q1 (by rw [h])),rfl⟩,yK.out⟩
  ·repeat (first|refine zK G G G ?_|refine zZ G G G G G ?_|refine L_ld G G G G G ?_)
   skip
   refine zY G G (zQ G G G) (sameB_spec w0 X _ _ x.data y.data rx ry hx hy) ?_
   rintro _ _ ⟨rfl,rfl⟩
   by_cases c0:x.data=y.data
   rotate_left
   ·rw [decide_eq_false c0]
    repeat (first|refine zE ?_|refine zK G G G ?_|refine zM ?_)
    exact ⟨[_],X,_,⟨rfl,trivial⟩,⟨bool_F (fun h=>c0 (by rw [h])),rfl⟩,yK.out⟩
   ·rw [decide_eq_true c0]
    repeat (first|refine zE ?_|refine zK G G G ?_|refine zM ?_)
    exact ⟨[_],X,_,⟨rfl,trivial⟩,⟨bool_T (by cases x; cases y; simp only at q0 q1 c0; subst q0 q1 c0; rfl),rfl⟩,yK.out⟩
theorem sameOut1_spec (w0:World) (X:Hp) (x y:Outp) (e f:List Value) (he:Rep.rd w0 X x e) (hf:Rep.rd w0 X y f) (hx:x.data.length≤1000000000) (hy:y.data.length≤1000000000) :
  Spec Tryz.prog w0 150 [.agg e.toArray,.agg f.toArray] X (fun r h'=>r=.bool (decide (x=y))∧X=h'):=by
 obtain ⟨a,c,rfl,rx⟩:=he
 obtain ⟨a2,c2,rfl,ry⟩:=hf
 refine zN Tryz.func150 G Tryz.ntmps150 Tryz.results150 G fun fr=>?_
 repeat (first|refine zF ?_|refine zB ?_|refine zE ?_|refine zK G G G ?_|refine zZ G G G G G ?_|refine L_ld G G G G G ?_|refine L_box G (c:=[_,_,_,_]) G G G (fun _=>?_))
 refine yG G G (pv_eql G G) (fun q0=>?_) (fun q0=>?_)
 rotate_left
 ·repeat (first|refine zE ?_|refine zK G G G ?_|refine L_skip G G ?_|refine zM ?_)
  exact ⟨[_],X,_,⟨rfl,trivial⟩,⟨bool_F (fun h=>q0 (by rw [h])),rfl⟩,yK.out⟩
 ·repeat (first|refine zK G G G ?_|refine zZ G G G G G ?_|refine L_ld G G G G G ?_)
  skip
  refine yG G G (pv_eql G G) (fun q1=>?_) (fun q1=>?_)
  rotate_left
  ·repeat (first|refine zE ?_|refine zK G G G ?_|refine L_skip G G ?_|refine zM ?_)
   exact ⟨[_],X,_,⟨rfl,trivial⟩,⟨bool_F (fun h=>q1 (by rw [h])),rfl⟩,yK.out⟩
  ·repeat (first|refine zK G G G ?_|refine zZ G G G G G ?_|refine L_ld G G G G G ?_)
   skip
   refine yG G G (pv_eql G G) (fun q2=>?_) (fun q2=>?_)
   rotate_left
   ·repeat (first|refine zE ?_|refine zK G G G ?_|refine L_skip G G ?_|refine zM ?_)
    exact ⟨[_],X,_,⟨rfl,trivial⟩,⟨bool_F (fun h=>q2 (by rw [h])),rfl⟩,yK.out⟩
   ·repeat (first|refine zK G G G ?_|refine zZ G G G G G ?_|refine L_ld G G G G G ?_)
    skip
    refine zY G G (zQ G G G) (sameB_spec w0 X _ _ x.data y.data rx ry hx hy) ?_
    rintro _ _ ⟨rfl,rfl⟩
    by_cases c0:x.data=y.data
    rotate_left
    ·rw [decide_eq_false c0]
     repeat (first|refine zE ?_|refine zK G G G ?_|refine zM ?_)
     exact ⟨[_],X,_,⟨rfl,trivial⟩,⟨bool_F (fun h=>c0 (by rw [h])),rfl⟩,yK.out⟩
    ·rw [decide_eq_true c0]
     repeat (first|refine zE ?_|refine zK G G G ?_|refine zM ?_)
     exact ⟨[_],X,_,⟨rfl,trivial⟩,⟨bool_T (by cases x; cases y; simp only at q0 q1 q2 c0; subst q0 q1 q2 c0; rfl),rfl⟩,yK.out⟩
theorem sameRes1_spec (w0:World) (X:Hp) (x y:Res) (e f:List Value) (he:Rep.rd w0 X x e) (hf:Rep.rd w0 X y f) (hx:x.data.length≤1000000000) (hy:y.data.length≤1000000000) :
  Spec Tryz.prog w0 30 [.agg e.toArray,.agg f.toArray] X (fun r h'=>r=.bool (decide (x=y))∧X=h'):=by
 obtain ⟨a,c,rfl,rx⟩:=he
 obtain ⟨a2,c2,rfl,ry⟩:=hf
 refine zN Tryz.func30 G Tryz.ntmps30 Tryz.results30 G fun fr=>?_
 repeat (first|refine zF ?_|refine zB ?_|refine zE ?_|refine zK G G G ?_|refine zZ G G G G G ?_|refine L_ld G G G G G ?_|refine L_box G (c:=[_,_]) G G G (fun _=>?_))
 refine yG G G (pv_eql G G) (fun q0=>?_) (fun q0=>?_)
 rotate_left
 ·repeat (first|refine zE ?_|refine zK G G G ?_|refine L_skip G G ?_|refine zM ?_)
  exact ⟨[_],X,_,⟨rfl,trivial⟩,⟨bool_F (fun h=>q0 (by rw [h])),rfl⟩,yK.out⟩
 ·repeat (first|refine zK G G G ?_|refine zZ G G G G G ?_|refine L_ld G G G G G ?_)
  skip
  refine zY G G (zQ G G G) (sameB_spec w0 X _ _ x.data y.data rx ry hx hy) ?_
  rintro _ _ ⟨rfl,rfl⟩
  by_cases c0:x.data=y.data
  rotate_left
  ·rw [decide_eq_false c0]
   repeat (first|refine zE ?_|refine zK G G G ?_|refine zM ?_)
   exact ⟨[_],X,_,⟨rfl,trivial⟩,⟨bool_F (fun h=>c0 (by rw [h])),rfl⟩,yK.out⟩
  ·rw [decide_eq_true c0]
   repeat (first|refine zE ?_|refine zK G G G ?_|refine zM ?_)
   exact ⟨[_],X,_,⟨rfl,trivial⟩,⟨bool_T (by cases x; cases y; simp only at q0 c0; subst q0 c0; rfl),rfl⟩,yK.out⟩
theorem sameSes1_spec (w0:World) (X:Hp) (x y:Ses) (e f:List Value) (he:Rep.rd w0 X x e) (hf:Rep.rd w0 X y f) (hx:x.res.data.length≤1000000000) (hy:y.res.data.length≤1000000000) :
  Spec Tryz.prog w0 151 [.agg e.toArray,.agg f.toArray] X (fun r h'=>r=.bool (decide (x=y))∧X=h'):=by
 obtain ⟨a,c,rfl,rx⟩:=he
 obtain ⟨a2,c2,rfl,ry⟩:=hf
 refine zN Tryz.func151 G Tryz.ntmps151 Tryz.results151 G fun fr=>?_
 repeat (first|refine zF ?_|refine zB ?_|refine zE ?_|refine zK G G G ?_|refine zZ G G G G G ?_|refine L_ld G G G G G ?_|refine L_box G (c:=[_,_,_,_]) G G G (fun _=>?_))
 refine yG G G (pv_eql G G) (fun q0=>?_) (fun q0=>?_)
 rotate_left
 ·repeat (first|refine zE ?_|refine zK G G G ?_|refine L_skip G G ?_|refine zM ?_)
  exact ⟨[_],X,_,⟨rfl,trivial⟩,⟨bool_F (fun h=>q0 (by rw [h])),rfl⟩,yK.out⟩
 ·repeat (first|refine zK G G G ?_|refine zZ G G G G G ?_|refine L_ld G G G G G ?_)
  skip
  refine yG G G (pv_eql G G) (fun q1=>?_) (fun q1=>?_)
  rotate_left
  ·repeat (first|refine zE ?_|refine zK G G G ?_|refine L_skip G G ?_|refine zM ?_)
   exact ⟨[_],X,_,⟨rfl,trivial⟩,⟨bool_F (fun h=>q1 (by rw [h])),rfl⟩,yK.out⟩
  ·repeat (first|refine zK G G G ?_|refine zZ G G G G G ?_|refine L_ldA G (vs:=[_,_]) G G G G G ?_)
   skip
   refine zY G G (zQ G G G) (sameRes1_spec w0 X x.res y.res _ _ ⟨a,c,rfl,rx⟩ ⟨a2,c2,rfl,ry⟩ hx hy) ?_
   rintro _ _ ⟨rfl,rfl⟩
   by_cases c0:x.res=y.res
   rotate_left
   ·rw [decide_eq_false c0]
    repeat (first|refine zE ?_|refine zK G G G ?_|refine zM ?_)
    exact ⟨[_],X,_,⟨rfl,trivial⟩,⟨bool_F (fun h=>c0 (by rw [h])),rfl⟩,yK.out⟩
   ·rw [decide_eq_true c0]
    repeat (first|refine zE ?_|refine zK G G G ?_|refine zM ?_)
    exact ⟨[_],X,_,⟨rfl,trivial⟩,⟨bool_T (by cases x; cases y; simp only at q0 q1 c0; subst q0 q1 c0; rfl),rfl⟩,yK.out⟩
theorem sameBlks_spec (w0:World) (X:Hp) (v u:Value) (xs ys:List Blk) (hv:RdL w0 X v xs) (hu:RdL w0 X u ys) (hl:xs.length≤1000000000) (hl2:ys.length≤1000000000) (hd:∀ x∈xs,x.data.length≤1000000000) (hd2:∀ x∈ys,x.data.length≤1000000000) :
  Spec Tryz.prog w0 26 [v,u] X (fun r h'=>r=.bool (decide (xs=ys))∧X=h'):=by
 obtain ⟨a,c,rfl⟩:=hv.shape
 obtain ⟨a2,c2,rfl⟩:=hu.shape
 refine zN Tryz.func26 G Tryz.ntmps26 Tryz.results26 G fun fr=>?_
 repeat (first|refine zF ?_|refine zB ?_|refine zE ?_|refine zK G G G ?_|refine L_len G G G ?_)
 refine yG G G (pv_neq G G) (fun n1=>?_) (fun n1=>?_)
 ·repeat (first|refine zF ?_|refine zB ?_|refine zE ?_|refine zK G G G ?_|refine zM ?_|refine zJ G ?_)
  exact ⟨[_],X,_,⟨rfl,trivial⟩,⟨bool_F (fun h=>n1 (by rw [h])),rfl⟩,yK.out⟩
 ·have hll:xs.length=ys.length:=by omega
  repeat (first|refine zF ?_|refine zR ?_|refine zB ?_|refine zE ?_|refine zK G G G ?_|refine zP ?_|refine zI G ?_)
  refine hold_count xs.length (fun k g L=>∃ (R:Hp),g=[(0,.slice a xs.length c),(1,.slice a2 ys.length c2),(5,.int .i64 k)]∧xs.take k=ys.take k∧L=X+fr+R) _ ⟨0,rfl,by simp,(yB _).symm⟩ (by repeat (first|exact zT _|refine zO G ?_)) ?_
  rintro k g L hk ⟨R,rfl,hpre,rfl⟩
  repeat (first|refine zF ?_|refine zB ?_|refine zK G G G ?_|refine L_len G G G ?_)
  refine yG G G (pv_lss G G) (fun n2=>?_) (fun n2=>?_)
  ·have hx:k<xs.length:=by omega
   have hy:k<ys.length:=by omega
   obtain ⟨b2,o2,rfl,e,he,hat⟩:=hv.at hx
   obtain ⟨b3,o3,rfl,e',he',hat'⟩:=hu.at hy
   obtain ⟨a4,c4,rfl,_⟩:=id he
   obtain ⟨a5,c5,rfl,_⟩:=id he'
   repeat (first|refine zF ?_|refine zR ?_|refine zE ?_|refine zP ?_|refine zJ G ?_)
   refine yC [8] [0,1,2,3,4,5,6,7,8,9] (by kernel_rfl) G (by kernel_rfl) (by kernel_rfl) ?_
   repeat (first|refine yI G G G G G ?_|refine W_idx G G G (by omega) G G G ?_|refine W_atA G G (by assumption) G G G G G ?_)
   refine W_call G G G G (zQ G G G) (sameBlk1_spec w0 X xs[k] ys[k] _ _ he he' (hd _ (List.getElem_mem hx)) (hd2 _ (List.getElem_mem hy))) (Kept.all _) ?_
   rintro _ _ ⟨rfl,rfl⟩
   refine ⟨(by repeat (first|exact trivial|exact zG G (zS G)|exact zL G G G|exact zX G (by assumption) G|exact zH G (by assumption) G|exact zH G (by assumption) (by assumption)|refine ⟨?_,?_⟩)),?_⟩
   by_cases e:xs[k]=ys[k]
   ·rw [decide_eq_true e]
    repeat (first|refine yJ ?_|refine yI G G G G G ?_)
    repeat (first|refine zB ?_|refine zE ?_|refine zK G G G ?_|refine zP ?_|refine zI G ?_|refine L_add G G (by omega) (by omega) G G ?_)
    exact ⟨hx,_,(by repeat (first|exact zT _|refine zO G ?_)),_,rfl,take_more hx hy hpre e,yK.out⟩
   ·rw [decide_eq_false e]
    repeat (first|refine yJ ?_|refine yI G G G G G ?_)
    repeat (first|refine zF ?_|refine zB ?_|refine zE ?_|refine zK G G G ?_|refine zM ?_|refine zJ G ?_)
    exact ⟨[_],X,_,⟨rfl,trivial⟩,⟨bool_F (fun h=>e (by subst h; rfl)),rfl⟩,yK.out⟩
  ·repeat (first|refine zF ?_|refine yD ?_|refine zB ?_|refine zE ?_|refine zK G G G ?_|refine zM ?_|refine zI G ?_)
   rw [List.take_of_length_le (by omega),List.take_of_length_le (by omega)] at hpre
   exact ⟨[_],X,_,⟨rfl,trivial⟩,⟨bool_T hpre,rfl⟩,yK.out⟩
theorem sameWrs_spec (w0:World) (X:Hp) (v u:Value) (xs ys:List Wr) (hv:RdL w0 X v xs) (hu:RdL w0 X u ys) (hl:xs.length≤1000000000) (hl2:ys.length≤1000000000) (hd:∀ x∈xs,x.data.length≤1000000000) (hd2:∀ x∈ys,x.data.length≤1000000000) :
  Spec Tryz.prog w0 164 [v,u] X (fun r h'=>r=.bool (decide (xs=ys))∧X=h'):=by
 obtain ⟨a,c,rfl⟩:=hv.shape
 obtain ⟨a2,c2,rfl⟩:=hu.shape
 refine zN Tryz.func164 G Tryz.ntmps164 Tryz.results164 G fun fr=>?_
 repeat (first|refine zF ?_|refine zB ?_|refine zE ?_|refine zK G G G ?_|refine L_len G G G ?_)
 refine yG G G (pv_neq G G) (fun n1=>?_) (fun n1=>?_)
 ·repeat (first|refine zF ?_|refine zB ?_|refine zE ?_|refine zK G G G ?_|refine zM ?_|refine zJ G ?_)
  exact ⟨[_],X,_,⟨rfl,trivial⟩,⟨bool_F (fun h=>n1 (by rw [h])),rfl⟩,yK.out⟩
 ·have hll:xs.length=ys.length:=by omega
  repeat (first|refine zF ?_|refine zR ?_|refine zB ?_|refine zE ?_|refine zK G G G ?_|refine zP ?_|refine zI G ?_)
  refine hold_count xs.length (fun k g L=>∃ (R:Hp),g=[(0,.slice a xs.length c),(1,.slice a2 ys.length c2),(5,.int .i64 k)]∧xs.take k=ys.take k∧L=X+fr+R) _ ⟨0,rfl,by simp,(yB _).symm⟩ (by repeat (first|exact zT _|refine zO G ?_)) ?_
  rintro k g L hk ⟨R,rfl,hpre,rfl⟩
  repeat (first|refine zF ?_|refine zB ?_|refine zK G G G ?_|refine L_len G G G ?_)
  refine yG G G (pv_lss G G) (fun n2=>?_) (fun n2=>?_)
  ·have hx:k<xs.length:=by omega
   have hy:k<ys.length:=by omega
   obtain ⟨b2,o2,rfl,e,he,hat⟩:=hv.at hx
   obtain ⟨b3,o3,rfl,e',he',hat'⟩:=hu.at hy
   obtain ⟨a4,c4,rfl,_⟩:=id he
   obtain ⟨a5,c5,rfl,_⟩:=id he'
   repeat (first|refine zF ?_|refine zR ?_|refine zE ?_|refine zP ?_|refine zJ G ?_)
   refine yC [8] [0,1,2,3,4,5,6,7,8,9] (by kernel_rfl) G (by kernel_rfl) (by kernel_rfl) ?_
   repeat (first|refine yI G G G G G ?_|refine W_idx G G G (by omega) G G G ?_|refine W_atA G G (by assumption) G G G G G ?_)
   refine W_call G G G G (zQ G G G) (sameWr1_spec w0 X xs[k] ys[k] _ _ he he' (hd _ (List.getElem_mem hx)) (hd2 _ (List.getElem_mem hy))) (Kept.all _) ?_
   rintro _ _ ⟨rfl,rfl⟩
   refine ⟨(by repeat (first|exact trivial|exact zG G (zS G)|exact zL G G G|exact zX G (by assumption) G|exact zH G (by assumption) G|exact zH G (by assumption) (by assumption)|refine ⟨?_,?_⟩)),?_⟩
   by_cases e:xs[k]=ys[k]
   ·rw [decide_eq_true e]
    repeat (first|refine yJ ?_|refine yI G G G G G ?_)
    repeat (first|refine zB ?_|refine zE ?_|refine zK G G G ?_|refine zP ?_|refine zI G ?_|refine L_add G G (by omega) (by omega) G G ?_)
    exact ⟨hx,_,(by repeat (first|exact zT _|refine zO G ?_)),_,rfl,take_more hx hy hpre e,yK.out⟩
   ·rw [decide_eq_false e]
    repeat (first|refine yJ ?_|refine yI G G G G G ?_)
    repeat (first|refine zF ?_|refine zB ?_|refine zE ?_|refine zK G G G ?_|refine zM ?_|refine zJ G ?_)
    exact ⟨[_],X,_,⟨rfl,trivial⟩,⟨bool_F (fun h=>e (by subst h; rfl)),rfl⟩,yK.out⟩
  ·repeat (first|refine zF ?_|refine yD ?_|refine zB ?_|refine zE ?_|refine zK G G G ?_|refine zM ?_|refine zI G ?_)
   rw [List.take_of_length_le (by omega),List.take_of_length_le (by omega)] at hpre
   exact ⟨[_],X,_,⟨rfl,trivial⟩,⟨bool_T hpre,rfl⟩,yK.out⟩
theorem sameKpts_spec (w0:World) (X:Hp) (v u:Value) (xs ys:List Kpt) (hv:RdL w0 X v xs) (hu:RdL w0 X u ys) (hl:xs.length≤1000000000) (hl2:ys.length≤1000000000) (hd:∀ x∈xs,x.data.length≤1000000000) (hd2:∀ x∈ys,x.data.length≤1000000000) :
  Spec Tryz.prog w0 73 [v,u] X (fun r h'=>r=.bool (decide (xs=ys))∧X=h'):=by
 obtain ⟨a,c,rfl⟩:=hv.shape
 obtain ⟨a2,c2,rfl⟩:=hu.shape
 refine zN Tryz.func73 G Tryz.ntmps73 Tryz.results73 G fun fr=>?_
 repeat (first|refine zF ?_|refine zB ?_|refine zE ?_|refine zK G G G ?_|refine L_len G G G ?_)
 refine yG G G (pv_neq G G) (fun n1=>?_) (fun n1=>?_)
 ·repeat (first|refine zF ?_|refine zB ?_|refine zE ?_|refine zK G G G ?_|refine zM ?_|refine zJ G ?_)
  exact ⟨[_],X,_,⟨rfl,trivial⟩,⟨bool_F (fun h=>n1 (by rw [h])),rfl⟩,yK.out⟩
 ·have hll:xs.length=ys.length:=by omega
  repeat (first|refine zF ?_|refine zR ?_|refine zB ?_|refine zE ?_|refine zK G G G ?_|refine zP ?_|refine zI G ?_)
  refine hold_count xs.length (fun k g L=>∃ (R:Hp),g=[(0,.slice a xs.length c),(1,.slice a2 ys.length c2),(5,.int .i64 k)]∧xs.take k=ys.take k∧L=X+fr+R) _ ⟨0,rfl,by simp,(yB _).symm⟩ (by repeat (first|exact zT _|refine zO G ?_)) ?_
  rintro k g L hk ⟨R,rfl,hpre,rfl⟩
  repeat (first|refine zF ?_|refine zB ?_|refine zK G G G ?_|refine L_len G G G ?_)
  refine yG G G (pv_lss G G) (fun n2=>?_) (fun n2=>?_)
  ·have hx:k<xs.length:=by omega
   have hy:k<ys.length:=by omega
   obtain ⟨b2,o2,rfl,e,he,hat⟩:=hv.at hx
   obtain ⟨b3,o3,rfl,e',he',hat'⟩:=hu.at hy
   obtain ⟨a4,c4,rfl,_⟩:=id he
   obtain ⟨a5,c5,rfl,_⟩:=id he'
   repeat (first|refine zF ?_|refine zR ?_|refine zE ?_|refine zP ?_|refine zJ G ?_)
   refine yC [8] [0,1,2,3,4,5,6,7,8,9] (by kernel_rfl) G (by kernel_rfl) (by kernel_rfl) ?_
   repeat (first|refine yI G G G G G ?_|refine W_idx G G G (by omega) G G G ?_|refine W_atA G G (by assumption) G G G G G ?_)
   refine W_call G G G G (zQ G G G) (sameKpt1_spec w0 X xs[k] ys[k] _ _ he he' (hd _ (List.getElem_mem hx)) (hd2 _ (List.getElem_mem hy))) (Kept.all _) ?_
   rintro _ _ ⟨rfl,rfl⟩
   refine ⟨(by repeat (first|exact trivial|exact zG G (zS G)|exact zL G G G|exact zX G (by assumption) G|exact zH G (by assumption) G|exact zH G (by assumption) (by assumption)|refine ⟨?_,?_⟩)),?_⟩
   by_cases e:xs[k]=ys[k]
   ·rw [decide_eq_true e]
    repeat (first|refine yJ ?_|refine yI G G G G G ?_)
    repeat (first|refine zB ?_|refine zE ?_|refine zK G G G ?_|refine zP ?_|refine zI G ?_|refine L_add G G (by omega) (by omega) G G ?_)
    exact ⟨hx,_,(by repeat (first|exact zT _|refine zO G ?_)),_,rfl,take_more hx hy hpre e,yK.out⟩
   ·rw [decide_eq_false e]
    repeat (first|refine yJ ?_|refine yI G G G G G ?_)
    repeat (first|refine zF ?_|refine zB ?_|refine zE ?_|refine zK G G G ?_|refine zM ?_|refine zJ G ?_)
    exact ⟨[_],X,_,⟨rfl,trivial⟩,⟨bool_F (fun h=>e (by subst h; rfl)),rfl⟩,yK.out⟩
  ·repeat (first|refine zF ?_|refine yD ?_|refine zB ?_|refine zE ?_|refine zK G G G ?_|refine zM ?_|refine zI G ?_)
   rw [List.take_of_length_le (by omega),List.take_of_length_le (by omega)] at hpre
   exact ⟨[_],X,_,⟨rfl,trivial⟩,⟨bool_T hpre,rfl⟩,yK.out⟩
theorem sameOuts_spec (w0:World) (X:Hp) (v u:Value) (xs ys:List Outp) (hv:RdL w0 X v xs) (hu:RdL w0 X u ys) (hl:xs.length≤1000000000) (hl2:ys.length≤1000000000) (hd:∀ x∈xs,x.data.length≤1000000000) (hd2:∀ x∈ys,x.data.length≤1000000000) :
  Spec Tryz.prog w0 76 [v,u] X (fun r h'=>r=.bool (decide (xs=ys))∧X=h'):=by
 obtain ⟨a,c,rfl⟩:=hv.shape
 obtain ⟨a2,c2,rfl⟩:=hu.shape
 refine zN Tryz.func76 G Tryz.ntmps76 Tryz.results76 G fun fr=>?_
 repeat (first|refine zF ?_|refine zB ?_|refine zE ?_|refine zK G G G ?_|refine L_len G G G ?_)
 refine yG G G (pv_neq G G) (fun n1=>?_) (fun n1=>?_)
 ·repeat (first|refine zF ?_|refine zB ?_|refine zE ?_|refine zK G G G ?_|refine zM ?_|refine zJ G ?_)
  exact ⟨[_],X,_,⟨rfl,trivial⟩,⟨bool_F (fun h=>n1 (by rw [h])),rfl⟩,yK.out⟩
 ·have hll:xs.length=ys.length:=by omega
  repeat (first|refine zF ?_|refine zR ?_|refine zB ?_|refine zE ?_|refine zK G G G ?_|refine zP ?_|refine zI G ?_)
  refine hold_count xs.length (fun k g L=>∃ (R:Hp),g=[(0,.slice a xs.length c),(1,.slice a2 ys.length c2),(5,.int .i64 k)]∧xs.take k=ys.take k∧L=X+fr+R) _ ⟨0,rfl,by simp,(yB _).symm⟩ (by repeat (first|exact zT _|refine zO G ?_)) ?_
  rintro k g L hk ⟨R,rfl,hpre,rfl⟩
  repeat (first|refine zF ?_|refine zB ?_|refine zK G G G ?_|refine L_len G G G ?_)
  refine yG G G (pv_lss G G) (fun n2=>?_) (fun n2=>?_)
  ·have hx:k<xs.length:=by omega
   have hy:k<ys.length:=by omega
   obtain ⟨b2,o2,rfl,e,he,hat⟩:=hv.at hx
   obtain ⟨b3,o3,rfl,e',he',hat'⟩:=hu.at hy
   obtain ⟨a4,c4,rfl,_⟩:=id he
   obtain ⟨a5,c5,rfl,_⟩:=id he'
   repeat (first|refine zF ?_|refine zR ?_|refine zE ?_|refine zP ?_|refine zJ G ?_)
   refine yC [8] [0,1,2,3,4,5,6,7,8,9] (by kernel_rfl) G (by kernel_rfl) (by kernel_rfl) ?_
   repeat (first|refine yI G G G G G ?_|refine W_idx G G G (by omega) G G G ?_|refine W_atA G G (by assumption) G G G G G ?_)
   refine W_call G G G G (zQ G G G) (sameOut1_spec w0 X xs[k] ys[k] _ _ he he' (hd _ (List.getElem_mem hx)) (hd2 _ (List.getElem_mem hy))) (Kept.all _) ?_
   rintro _ _ ⟨rfl,rfl⟩
   refine ⟨(by repeat (first|exact trivial|exact zG G (zS G)|exact zL G G G|exact zX G (by assumption) G|exact zH G (by assumption) G|exact zH G (by assumption) (by assumption)|refine ⟨?_,?_⟩)),?_⟩
   by_cases e:xs[k]=ys[k]
   ·rw [decide_eq_true e]
    repeat (first|refine yJ ?_|refine yI G G G G G ?_)
    repeat (first|refine zB ?_|refine zE ?_|refine zK G G G ?_|refine zP ?_|refine zI G ?_|refine L_add G G (by omega) (by omega) G G ?_)
    exact ⟨hx,_,(by repeat (first|exact zT _|refine zO G ?_)),_,rfl,take_more hx hy hpre e,yK.out⟩
   ·rw [decide_eq_false e]
    repeat (first|refine yJ ?_|refine yI G G G G G ?_)
    repeat (first|refine zF ?_|refine zB ?_|refine zE ?_|refine zK G G G ?_|refine zM ?_|refine zJ G ?_)
    exact ⟨[_],X,_,⟨rfl,trivial⟩,⟨bool_F (fun h=>e (by subst h; rfl)),rfl⟩,yK.out⟩
  ·repeat (first|refine zF ?_|refine yD ?_|refine zB ?_|refine zE ?_|refine zK G G G ?_|refine zM ?_|refine zI G ?_)
   rw [List.take_of_length_le (by omega),List.take_of_length_le (by omega)] at hpre
   exact ⟨[_],X,_,⟨rfl,trivial⟩,⟨bool_T hpre,rfl⟩,yK.out⟩
theorem sameSess_spec (w0:World) (X:Hp) (v u:Value) (xs ys:List Ses) (hv:RdL w0 X v xs) (hu:RdL w0 X u ys) (hl:xs.length≤1000000000) (hl2:ys.length≤1000000000) (hd:∀ x∈xs,x.res.data.length≤1000000000) (hd2:∀ x∈ys,x.res.data.length≤1000000000) :
  Spec Tryz.prog w0 77 [v,u] X (fun r h'=>r=.bool (decide (xs=ys))∧X=h'):=by
 obtain ⟨a,c,rfl⟩:=hv.shape
 obtain ⟨a2,c2,rfl⟩:=hu.shape
 refine zN Tryz.func77 G Tryz.ntmps77 Tryz.results77 G fun fr=>?_
 repeat (first|refine zF ?_|refine zB ?_|refine zE ?_|refine zK G G G ?_|refine L_len G G G ?_)
 refine yG G G (pv_neq G G) (fun n1=>?_) (fun n1=>?_)
 ·repeat (first|refine zF ?_|refine zB ?_|refine zE ?_|refine zK G G G ?_|refine zM ?_|refine zJ G ?_)
  exact ⟨[_],X,_,⟨rfl,trivial⟩,⟨bool_F (fun h=>n1 (by rw [h])),rfl⟩,yK.out⟩
 ·have hll:xs.length=ys.length:=by omega
  repeat (first|refine zF ?_|refine zR ?_|refine zB ?_|refine zE ?_|refine zK G G G ?_|refine zP ?_|refine zI G ?_)
  refine hold_count xs.length (fun k g L=>∃ (R:Hp),g=[(0,.slice a xs.length c),(1,.slice a2 ys.length c2),(5,.int .i64 k)]∧xs.take k=ys.take k∧L=X+fr+R) _ ⟨0,rfl,by simp,(yB _).symm⟩ (by repeat (first|exact zT _|refine zO G ?_)) ?_
  rintro k g L hk ⟨R,rfl,hpre,rfl⟩
  repeat (first|refine zF ?_|refine zB ?_|refine zK G G G ?_|refine L_len G G G ?_)
  refine yG G G (pv_lss G G) (fun n2=>?_) (fun n2=>?_)
  ·have hx:k<xs.length:=by omega
   have hy:k<ys.length:=by omega
   obtain ⟨b2,o2,rfl,e,he,hat⟩:=hv.at hx
   obtain ⟨b3,o3,rfl,e',he',hat'⟩:=hu.at hy
   obtain ⟨a4,c4,rfl,_⟩:=id he
   obtain ⟨a5,c5,rfl,_⟩:=id he'
   repeat (first|refine zF ?_|refine zR ?_|refine zE ?_|refine zP ?_|refine zJ G ?_)
   refine yC [8] [0,1,2,3,4,5,6,7,8,9] (by kernel_rfl) G (by kernel_rfl) (by kernel_rfl) ?_
   repeat (first|refine yI G G G G G ?_|refine W_idx G G G (by omega) G G G ?_|refine W_atA G G (by assumption) G G G G G ?_)
   refine W_call G G G G (zQ G G G) (sameSes1_spec w0 X xs[k] ys[k] _ _ he he' (hd _ (List.getElem_mem hx)) (hd2 _ (List.getElem_mem hy))) (Kept.all _) ?_
   rintro _ _ ⟨rfl,rfl⟩
   refine ⟨(by repeat (first|exact trivial|exact zG G (zS G)|exact zL G G G|exact zX G (by assumption) G|exact zH G (by assumption) G|exact zH G (by assumption) (by assumption)|refine ⟨?_,?_⟩)),?_⟩
   by_cases e:xs[k]=ys[k]
   ·rw [decide_eq_true e]
    repeat (first|refine yJ ?_|refine yI G G G G G ?_)
    repeat (first|refine zB ?_|refine zE ?_|refine zK G G G ?_|refine zP ?_|refine zI G ?_|refine L_add G G (by omega) (by omega) G G ?_)
    exact ⟨hx,_,(by repeat (first|exact zT _|refine zO G ?_)),_,rfl,take_more hx hy hpre e,yK.out⟩
   ·rw [decide_eq_false e]
    repeat (first|refine yJ ?_|refine yI G G G G G ?_)
    repeat (first|refine zF ?_|refine zB ?_|refine zE ?_|refine zK G G G ?_|refine zM ?_|refine zJ G ?_)
    exact ⟨[_],X,_,⟨rfl,trivial⟩,⟨bool_F (fun h=>e (by subst h; rfl)),rfl⟩,yK.out⟩
  ·repeat (first|refine zF ?_|refine yD ?_|refine zB ?_|refine zE ?_|refine zK G G G ?_|refine zM ?_|refine zI G ?_)
   rw [List.take_of_length_le (by omega),List.take_of_length_le (by omega)] at hpre
   exact ⟨[_],X,_,⟨rfl,trivial⟩,⟨bool_T hpre,rfl⟩,yK.out⟩
theorem samePrp1_spec (w0:World) (X:Hp) (x y:Prp) (e f:List Value) (he:Rep.rd w0 X x e) (hf:Rep.rd w0 X y f) (hx:x.parts.length≤1000000000∧x.writes.length≤1000000000∧∀ w∈x.writes,w.data.length≤1000000000) (hy:y.parts.length≤1000000000∧y.writes.length≤1000000000∧∀ w∈y.writes,w.data.length≤1000000000) :
  Spec Tryz.prog w0 105 [.agg e.toArray,.agg f.toArray] X (fun r h'=>r=.bool (decide (x=y))∧X=h'):=by
 obtain ⟨a,c,a2,c2,rfl,rx,rx2⟩:=he
 obtain ⟨a3,c3,a4,c4,rfl,ry,ry2⟩:=hf
 refine zN Tryz.func105 G Tryz.ntmps105 Tryz.results105 G fun fr=>?_
 repeat (first|refine zF ?_|refine zB ?_|refine zE ?_|refine zK G G G ?_|refine zZ G G G G G ?_|refine L_ld G G G G G ?_|refine L_box G (c:=[_,_,_,_,_,_,_]) G G G (fun _=>?_))
 refine yG G G (pv_eql G G) (fun q0=>?_) (fun q0=>?_)
 rotate_left
 ·repeat (first|refine zE ?_|refine zK G G G ?_|refine L_skip G G ?_|refine zM ?_)
  exact ⟨[_],X,_,⟨rfl,trivial⟩,⟨bool_F (fun h=>q0 (by rw [h])),rfl⟩,yK.out⟩
 ·repeat (first|refine zK G G G ?_|refine zZ G G G G G ?_|refine L_ld G G G G G ?_)
  skip
  refine yG G G (pv_eql G G) (fun q1=>?_) (fun q1=>?_)
  rotate_left
  ·repeat (first|refine zE ?_|refine zK G G G ?_|refine L_skip G G ?_|refine zM ?_)
   exact ⟨[_],X,_,⟨rfl,trivial⟩,⟨bool_F (fun h=>q1 (by rw [h])),rfl⟩,yK.out⟩
  ·repeat (first|refine zK G G G ?_|refine zZ G G G G G ?_|refine L_ld G G G G G ?_)
   skip
   refine yG G G (pv_eql G G) (fun q2=>?_) (fun q2=>?_)
   rotate_left
   ·repeat (first|refine zE ?_|refine zK G G G ?_|refine L_skip G G ?_|refine zM ?_)
    exact ⟨[_],X,_,⟨rfl,trivial⟩,⟨bool_F (fun h=>q2 (by rw [h])),rfl⟩,yK.out⟩
   ·repeat (first|refine zK G G G ?_|refine zZ G G G G G ?_|refine L_ld G G G G G ?_)
    skip
    refine yG G G (pv_eql G G) (fun q3=>?_) (fun q3=>?_)
    rotate_left
    ·repeat (first|refine zE ?_|refine zK G G G ?_|refine L_skip G G ?_|refine zM ?_)
     exact ⟨[_],X,_,⟨rfl,trivial⟩,⟨bool_F (fun h=>q3 (by rw [h])),rfl⟩,yK.out⟩
    ·repeat (first|refine zK G G G ?_|refine zZ G G G G G ?_|refine L_ld G G G G G ?_)
     skip
     refine yG G G (pv_eql G G) (fun q4=>?_) (fun q4=>?_)
     rotate_left
     ·repeat (first|refine zE ?_|refine zK G G G ?_|refine L_skip G G ?_|refine zM ?_)
      exact ⟨[_],X,_,⟨rfl,trivial⟩,⟨bool_F (fun h=>q4 (by rw [h])),rfl⟩,yK.out⟩
     ·repeat (first|refine zK G G G ?_|refine zZ G G G G G ?_|refine L_ld G G G G G ?_)
      skip
      refine zY G G (zQ G G G) (sameI_spec w0 X _ _ x.parts y.parts rx ry hx.1 hy.1) ?_
      rintro _ _ ⟨rfl,rfl⟩
      by_cases c0:x.parts=y.parts
      rotate_left
      ·rw [decide_eq_false c0]
       repeat (first|refine zE ?_|refine zK G G G ?_|refine L_skip G G ?_|refine zM ?_)
       exact ⟨[_],X,_,⟨rfl,trivial⟩,⟨bool_F (fun h=>c0 (by rw [h])),rfl⟩,yK.out⟩
      ·rw [decide_eq_true c0]
       repeat (first|refine zK G G G ?_|refine zZ G G G G G ?_|refine L_ld G G G G G ?_)
       skip
       refine zY G G (zQ G G G) (sameWrs_spec w0 X _ _ x.writes y.writes rx2 ry2 hx.2.1 hy.2.1 hx.2.2 hy.2.2) ?_
       rintro _ _ ⟨rfl,rfl⟩
       by_cases c1:x.writes=y.writes
       rotate_left
       ·rw [decide_eq_false c1]
        repeat (first|refine zE ?_|refine zK G G G ?_|refine zM ?_)
        exact ⟨[_],X,_,⟨rfl,trivial⟩,⟨bool_F (fun h=>c1 (by rw [h])),rfl⟩,yK.out⟩
       ·rw [decide_eq_true c1]
        repeat (first|refine zE ?_|refine zK G G G ?_|refine zM ?_)
        exact ⟨[_],X,_,⟨rfl,trivial⟩,⟨bool_T (by cases x; cases y; simp only at q0 q1 q2 q3 q4 c0 c1; subst q0 q1 q2 q3 q4 c0 c1; rfl),rfl⟩,yK.out⟩
theorem samePrps_spec (w0:World) (X:Hp) (v u:Value) (xs ys:List Prp) (hv:RdL w0 X v xs) (hu:RdL w0 X u ys) (hl:xs.length≤1000000000) (hl2:ys.length≤1000000000) (hd:∀ x∈xs,x.parts.length≤1000000000∧x.writes.length≤1000000000∧∀ w∈x.writes,w.data.length≤1000000000) (hd2:∀ x∈ys,x.parts.length≤1000000000∧x.writes.length≤1000000000∧∀ w∈x.writes,w.data.length≤1000000000) :
  Spec Tryz.prog w0 75 [v,u] X (fun r h'=>r=.bool (decide (xs=ys))∧X=h'):=by
 obtain ⟨a,c,rfl⟩:=hv.shape
 obtain ⟨a2,c2,rfl⟩:=hu.shape
 refine zN Tryz.func75 G Tryz.ntmps75 Tryz.results75 G fun fr=>?_
 repeat (first|refine zF ?_|refine zB ?_|refine zE ?_|refine zK G G G ?_|refine L_len G G G ?_)
 refine yG G G (pv_neq G G) (fun n1=>?_) (fun n1=>?_)
 ·repeat (first|refine zF ?_|refine zB ?_|refine zE ?_|refine zK G G G ?_|refine zM ?_|refine zJ G ?_)
  exact ⟨[_],X,_,⟨rfl,trivial⟩,⟨bool_F (fun h=>n1 (by rw [h])),rfl⟩,yK.out⟩
 ·have hll:xs.length=ys.length:=by omega
  repeat (first|refine zF ?_|refine zR ?_|refine zB ?_|refine zE ?_|refine zK G G G ?_|refine zP ?_|refine zI G ?_)
  refine hold_count xs.length (fun k g L=>∃ (R:Hp),g=[(0,.slice a xs.length c),(1,.slice a2 ys.length c2),(5,.int .i64 k)]∧xs.take k=ys.take k∧L=X+fr+R) _ ⟨0,rfl,by simp,(yB _).symm⟩ (by repeat (first|exact zT _|refine zO G ?_)) ?_
  rintro k g L hk ⟨R,rfl,hpre,rfl⟩
  repeat (first|refine zF ?_|refine zB ?_|refine zK G G G ?_|refine L_len G G G ?_)
  refine yG G G (pv_lss G G) (fun n2=>?_) (fun n2=>?_)
  ·have hx:k<xs.length:=by omega
   have hy:k<ys.length:=by omega
   obtain ⟨b2,o2,rfl,e,he,hat⟩:=hv.at hx
   obtain ⟨b3,o3,rfl,e',he',hat'⟩:=hu.at hy
   obtain ⟨a4,c4,a6,c6,rfl,_,_⟩:=id he
   obtain ⟨a5,c5,a7,c7,rfl,_,_⟩:=id he'
   repeat (first|refine zF ?_|refine zR ?_|refine zE ?_|refine zP ?_|refine zJ G ?_)
   refine yC [8] [0,1,2,3,4,5,6,7,8,9] (by kernel_rfl) G (by kernel_rfl) (by kernel_rfl) ?_
   repeat (first|refine yI G G G G G ?_|refine W_idx G G G (by omega) G G G ?_|refine W_atA G G (by assumption) G G G G G ?_)
   refine W_call G G G G (zQ G G G) (samePrp1_spec w0 X xs[k] ys[k] _ _ he he' (hd _ (List.getElem_mem hx)) (hd2 _ (List.getElem_mem hy))) (Kept.all _) ?_
   rintro _ _ ⟨rfl,rfl⟩
   refine ⟨(by repeat (first|exact trivial|exact zG G (zS G)|exact zL G G G|exact zX G (by assumption) G|exact zH G (by assumption) G|exact zH G (by assumption) (by assumption)|refine ⟨?_,?_⟩)),?_⟩
   by_cases e:xs[k]=ys[k]
   ·rw [decide_eq_true e]
    repeat (first|refine yJ ?_|refine yI G G G G G ?_)
    repeat (first|refine zB ?_|refine zE ?_|refine zK G G G ?_|refine zP ?_|refine zI G ?_|refine L_add G G (by omega) (by omega) G G ?_)
    exact ⟨hx,_,(by repeat (first|exact zT _|refine zO G ?_)),_,rfl,take_more hx hy hpre e,yK.out⟩
   ·rw [decide_eq_false e]
    repeat (first|refine yJ ?_|refine yI G G G G G ?_)
    repeat (first|refine zF ?_|refine zB ?_|refine zE ?_|refine zK G G G ?_|refine zM ?_|refine zJ G ?_)
    exact ⟨[_],X,_,⟨rfl,trivial⟩,⟨bool_F (fun h=>e (by subst h; rfl)),rfl⟩,yK.out⟩
  ·repeat (first|refine zF ?_|refine yD ?_|refine zB ?_|refine zE ?_|refine zK G G G ?_|refine zM ?_|refine zI G ?_)
   rw [List.take_of_length_le (by omega),List.take_of_length_le (by omega)] at hpre
   exact ⟨[_],X,_,⟨rfl,trivial⟩,⟨bool_T hpre,rfl⟩,yK.out⟩
end Sl
end Go.Proofs.YtpkealohodeifaaGreat
namespace Go.Proofs.YtpkealohodeifaaGreat
open Go Go.RowKit
namespace Sl
set_option maxHeartbeats 16000000
set_option maxRecDepth 4000
set_option synthInstance.maxHeartbeats 400000
set_option synthInstance.maxSize 100000
attribute [local irreducible] Hold HoldL HoldW
def newS (lo hi ep:Int):Shd:=⟨lo,hi,ep,[],[],[],[],[],[],[]⟩
def FirstP (lo hi ep:Int):Prop:=0≤lo∧lo≤hi∧hi≤64∧0≤ep∧ep≤1099511627776
abbrev nils :Value:=.slice none 0 0
theorem newS_good {lo hi ep:Int} (h:FirstP lo hi ep):Good 0 (newS lo hi ep):=by
 obtain ⟨h1,h2,h3,h4,h5⟩:=h
 exact ⟨⟨okB_nil,⟨by simp [newS],by simp [newS]⟩,safe_nil,by simp [newS,Rises],by simp [newS]⟩,⟨by simp [newS],by simp [newS],by simp [newS],by simp [newS],by simp [newS]⟩,⟨h1,h2,h3⟩,⟨h4,h5⟩,by simp [newS],by simp [newS],by simp [newS],by simp [newS],by simp [newS],by simp [newS],by simp [newS],by simp [newS],by simp [newS],by simp [newS]⟩
theorem newS_rd (w0:World) (X:Hp) (lo hi ep:Int):RdShd w0 X (newS lo hi ep) (cellsS (newS lo hi ep) nils nils nils nils nils nils nils) :=
 ⟨none,0,none,0,none,0,none,0,none,0,none,0,none,0,rfl,RdL.nil _ _ _,RdL.nil _ _ _,RdL.nil _ _ _,RdL.nil _ _ _,RdL.nil _ _ _,RdL.nil _ _ _,RdL.nil _ _ _⟩
theorem one22_spec (w0:World) (c:Int) (h0:0≤c) (h1:c≤1000):Spec Tryz.prog w0 41 [.int .i64 c] 0 (fun r h'=>r=.int .i64 (c*1048576+1)∧0=h'):=by
 refine zN Tryz.func41 G Tryz.ntmps41 Tryz.results41 G fun fr=>?_
 repeat (first|refine zF ?_|refine zB ?_|refine zE ?_|refine zK G G G ?_)
 refine yH G G (pv_shl G G (by decide)) ?_
 rw [show IntKind.i64.wrap (c*2 ^ (min ((20:Int).toNat) IntKind.i64.bits))=c*1048576 by
  rw [show (2:Int) ^ (min ((20:Int).toNat) IntKind.i64.bits)=1048576 from rfl,wrap_i64_in _ (by omega) (by omega)]]
 repeat (first|refine zE ?_|refine zK G G G ?_|refine zM ?_|refine L_add G G (by omega) (by omega) G G ?_)
 exact ⟨[_],0,_,⟨rfl,trivial⟩,⟨rfl,rfl⟩,yK.out⟩
def rd0 (seq txn age block:Int):Opn:=⟨1,txn.fdiv 1048576,seq,txn,age,1,0,0,block,0,0,0,0,[],[],[],[]⟩
def wr0 (seq txn age block:Int) (b:Bt):Opn:=⟨2,txn.fdiv 1048576,seq,txn,age,1,0,0,0,0,0,0,0,[1],[],[⟨block,[b,0,0,0]⟩],[]⟩
def de0 (txn value:Int):Opn:=⟨3,0,0,txn,0,0,0,0,0,0,value,0,0,[],[],[],[]⟩
theorem read0_spec (w0:World) (seq txn age block:Int):Spec Tryz.prog w0 42 [.int .i64 seq,.int .i64 txn,.int .i64 age,.int .i64 block] 0 (fun r h'=>r=.agg (cellsO (rd0 seq txn age block) nils nils nils nils).toArray∧0=h'):=by
 refine zN Tryz.func42 G Tryz.ntmps42 Tryz.results42 G fun fr=>?_
 repeat (first|refine zF ?_|refine zB ?_|refine zE ?_|refine zK G G G ?_|refine L_alloc (c:=[_,_,_,_,_,_,_,_,_,_,_,_,_,_,_,_,_]) G G G (fun _=>?_))
 refine yH G G (pv_shr G G (by decide)) ?_
 repeat (first|refine zE ?_|refine zK G G G ?_|refine zM ?_|refine L_build (vs:=[_,_,_,_,_,_,_]) (cells:=[_,_,_,_,_,_,_,_,_,_,_,_,_,_,_,_,_]) G G G G ?_|refine L_stA G (vs:=[_,_,_,_,_,_,_,_,_,_,_,_,_,_,_,_,_]) G G G G (c':=[_,_,_,_,_,_,_,_,_,_,_,_,_,_,_,_,_]) G G ?_)
 exact ⟨[_],0,_,⟨⟨_,rfl,zL G G G⟩,trivial⟩,⟨rfl,rfl⟩,yK.out⟩
theorem decide0_spec (w0:World) (txn value:Int):Spec Tryz.prog w0 44 [.int .i64 txn,.int .i64 value] 0 (fun r h'=>r=.agg (cellsO (de0 txn value) nils nils nils nils).toArray∧0=h'):=by
 refine zN Tryz.func44 G Tryz.ntmps44 Tryz.results44 G fun fr=>?_
 repeat (first|refine zF ?_|refine zB ?_|refine zE ?_|refine zK G G G ?_|refine zM ?_|refine L_build (vs:=[_,_,_]) (cells:=[_,_,_,_,_,_,_,_,_,_,_,_,_,_,_,_,_]) G G G G ?_|refine L_stA G (vs:=[_,_,_,_,_,_,_,_,_,_,_,_,_,_,_,_,_]) G G G G (c':=[_,_,_,_,_,_,_,_,_,_,_,_,_,_,_,_,_]) G G ?_|refine L_alloc (c:=[_,_,_,_,_,_,_,_,_,_,_,_,_,_,_,_,_]) G G G (fun _=>?_))
 exact ⟨[_],0,_,⟨⟨_,rfl,zL G G G⟩,trivial⟩,⟨rfl,rfl⟩,yK.out⟩
abbrev sl1 (b n:Nat):Value:=.slice (some ⟨b,0,none⟩) n n
theorem write0_spec (w0:World) (seq txn age block:Int) (b:Bt):Spec Tryz.prog w0 43 [.int .i64 seq,.int .i64 txn,.int .i64 age,.int .i64 block,.int .u8 (b.val:Int)] 0
  (fun r h'=>∃ b1 b2 b3,r=.agg (cellsO (wr0 seq txn age block b) (sl1 b1 1) nils (sl1 b3 1) nils).toArray∧pt b1 (.cells [.int .i64 1].toArray 3 (0,0))+pt b2 (.cells [.int .u8 (b.val:Int),.int .u8 0,.int .u8 0,.int .u8 0].toArray 5 (0,0))+pt b3 (.cells [.int .i64 block,sl1 b2 4].toArray 100 (0,0))=h'):=by
 refine zN Tryz.func43 G Tryz.ntmps43 Tryz.results43 G fun fr=>?_
 repeat (first|refine zF ?_|refine zB ?_|refine zE ?_|refine zK G G G ?_|refine L_alloc (c:=[_,_,_,_,_,_,_,_,_,_,_,_,_,_,_,_,_]) G G G (fun _=>?_))
 refine yH G G (pv_shr G G (by decide)) ?_
 repeat (first|refine zE ?_|refine zK G G G ?_|refine zM ?_|refine L_build (vs:=[_,_]) (cells:=[_,_]) G G G G ?_|refine L_build (vs:=[_,_,_,_,_,_,_,_]) (cells:=[_,_,_,_,_,_,_,_,_,_,_,_,_,_,_,_,_]) G G G G ?_|refine L_stA G (vs:=[_,_,_,_,_,_,_,_,_,_,_,_,_,_,_,_,_]) G G G G (c':=[_,_,_,_,_,_,_,_,_,_,_,_,_,_,_,_,_]) G G ?_|refine L_bs (vs:=[_]) (cells:=[_]) G G G G G G (fun _=>?_)|refine L_bs (vs:=[_]) (cells:=[_,_]) G G G G G G (fun _=>?_)|refine L_bs (vs:=[_,_,_,_]) (cells:=[_,_,_,_]) G G G G G G (fun _=>?_))
 rename_i b10 b16 b19 b21
 exact ⟨[_],pt b16 (.cells [.int .i64 1].toArray 3 (0,0))+pt b19 (.cells [.int .u8 (b.val:Int),.int .u8 0,.int .u8 0,.int .u8 0].toArray 5 (0,0))+pt b21 (.cells [.int .i64 block,sl1 b19 4].toArray 100 (0,0)),_,⟨⟨_,rfl,zL G G G⟩,trivial⟩,⟨b16,b19,b21,rfl,rfl⟩,yK.out⟩
def playF (s:Shd) (l:List Opn):Shd × List Int:=l.foldl (fun a o=>((applyF a.1 o).1,a.2++[(applyF a.1 o).2.code])) (s,[])
theorem playF_succ (s:Shd) {l:List Opn} {k:Nat} (h:k<l.length):playF s (l.take (k+1))=((applyF (playF s (l.take k)).1 l[k]).1,(playF s (l.take k)).2++[(applyF (playF s (l.take k)).1 l[k]).2.code]):=by
 unfold playF; rw [List.take_succ_eq_append_getElem h,List.foldl_append]; rfl
theorem playF_good {n:Nat} {s:Shd} (h:Good n s) {l:List Opn} (hn:n+l.length≤191):∀ k,k≤l.length→Good (n+k) (playF s (l.take k)).1∧(playF s (l.take k)).2.length=k
 | 0,_=>⟨h,rfl⟩
 | k+1,hk=>by
  obtain ⟨g,hl⟩:=playF_good h hn k (by omega)
  rw [playF_succ s (show k<l.length by omega)]
  exact ⟨(applyF_good g (by omega) _).1,by simp [hl]⟩
theorem play22_spec (w0:World) (X:Hp) (s:Shd) (es:List Value) (v:Value) (l:List Opn) (n:Nat) (hs:RdShd w0 X s es) (hv:RdL w0 X v l) (hg:Good n s) (hn:n+l.length≤190) (hni:∀ o∈l,NumsIn o) (hso:∀ o∈l,SmallO o) :
  Spec Tryz.prog w0 32 [.agg es.toArray,v] X (fun r h'=>∃ (e1:List Value) (vo:Value) (D ho:Hp),r=.tuple #[.agg e1.toArray,vo]∧RdShd w0 (X+D) (playF s l).1 e1∧OwL w0 0 (playF s l).2 vo ho∧X+D+ho=h'):=by
 obtain ⟨p1,q1,p2,q2,p3,q3,p4,q4,p5,q5,p6,q6,p7,q7,rfl,_,_,_,_,_,_,_⟩:=id hs
 obtain ⟨a,c,rfl⟩:=hv.shape
 refine zN Tryz.func32 G Tryz.ntmps32 Tryz.results32 G fun fr=>?_
 repeat (first|refine zF ?_|refine zR ?_|refine zB ?_|refine zE ?_|refine zK G G G ?_|refine L_box G (c:=[_,_,_,_,_,_,_,_,_,_]) G G G (fun _=>?_)|refine L_alloc (c:=[_,_,_,_,_,_,_,_,_,_]) G G G (fun _=>?_))
 rename_i b2 b4
 refine hold_count l.length (fun k g L=>∃ (ek:List Value) (vo:Value) (D ho R:Hp),g=[(1,.slice a l.length c),(2,.pointer (some ⟨b2,0,none⟩)),(4,.pointer (some ⟨b4,0,none⟩)),(6,vo),(7,.int .i64 k)]∧RdShd w0 (X+D) (playF s (l.take k)).1 ek∧OwL w0 0 (playF s (l.take k)).2 vo ho ∧
  L=X+D+ho+pt b2 (.cells ek.toArray 33 (0,0))+pt b4 (.cells [.int .i64 0,.int .i64 0,.int .i64 0,.slice none 0 0,.slice none 0 0,.slice none 0 0,.slice none 0 0,.slice none 0 0,.slice none 0 0,.slice none 0 0].toArray 33 (0,0))+fr+R) _ ⟨_,_,0,0,_,rfl,by rw [yB]; exact hs,OwL.nil _ _,by simp only [yB]; exact yK.out⟩ (by repeat (first|exact zT _|refine zO G ?_)) ?_
 rintro k g L hk ⟨ek,vo,D,ho,R,rfl,hrk,hov,rfl⟩
 obtain ⟨g1,g2⟩:=playF_good hg (l:=l) (by omega) k hk
 obtain ⟨k1,qk1,k2,qk2,k3,qk3,k4,qk4,k5,qk5,k6,qk6,k7,qk7,rfl,_,_,_,_,_,_,_⟩:=id hrk
 repeat (first|refine zF ?_|refine zB ?_|refine zK G G G ?_|refine L_len G G G ?_)
 refine yG G G (pv_lss G G) (fun n1=>?_) (fun n1=>?_)
 ·have hx:k<l.length:=by omega
  have hsucc:=playF_succ s hx
  obtain ⟨b7,o7,rfl,e,he,hat⟩:=hv.at hx
  have happ:=apply22_spec w0 (X+D) (playF s (l.take k)).1 _ l[k] e (n+k) hrk (Rep.mono G he) g1 (by omega) (hni _ (List.getElem_mem hx)) (hso _ (List.getElem_mem hx))
  obtain ⟨x1,y1,x2,y2,x3,y3,x4,y4,rfl,_⟩:=id he
  repeat (first|refine zF ?_|refine zR ?_|refine zE ?_|refine zP ?_|refine zJ G ?_)
  refine hold_join (fun g' L'=>∃ (b8 b9:Nat) (e1 e2:List Value) (D2 h hr R:Hp),Sub g' [(1,.slice (some ⟨b7,o7,none⟩) l.length c),(2,.pointer (some ⟨b2,0,none⟩)),(4,.pointer (some ⟨b4,0,none⟩)),(6,vo),(7,.int .i64 k),(8,.pointer (some ⟨b8,0,none⟩)),(9,.pointer (some ⟨b9,0,none⟩))]∧OwShd w0 D2 (applyF (playF s (l.take k)).1 l[k]).1 e1 h∧OwR w0 (applyF (playF s (l.take k)).1 l[k]).2 (.agg e2.toArray) hr ∧
   L'=X+D+(D2+h+hr)+ho+pt b2 (.cells (cellsS (playF s (l.take k)).1 (.slice k1 (playF s (l.take k)).1.blocks.length qk1) (.slice k2 (playF s (l.take k)).1.kept.length qk2) (.slice k3 (playF s (l.take k)).1.locks.length qk3) (.slice k4 (playF s (l.take k)).1.preps.length qk4) (.slice k5 (playF s (l.take k)).1.dead.length qk5) (.slice k6 (playF s (l.take k)).1.outs.length qk6) (.slice k7 (playF s (l.take k)).1.sess.length qk7)).toArray 33 (0,0))+pt b4 (.cells [.int .i64 0,.int .i64 0,.int .i64 0,.slice none 0 0,.slice none 0 0,.slice none 0 0,.slice none 0 0,.slice none 0 0,.slice none 0 0,.slice none 0 0].toArray 33 (0,0))+pt b8 (.cells e1.toArray 33 (0,0))+pt b9 (.cells e2.toArray 51 (0,0))+fr+R) ?_ ?_
  ·refine hold_drawV2 [5,9,10,11,12] [0,1,2,3,4,5,6,7,8] [10,11,12] [9,11,12] 9 8 [.int .i64 0,.int .i64 0,.int .i64 0,.slice none 0 0,.slice none 0 0,.slice none 0 0,.slice none 0 0,.slice none 0 0,.slice none 0 0,.slice none 0 0] 33 10 9 [.int .i64 0,.slice none 0 0] 51 (by kernel_rfl) G G (by kernel_rfl) (by kernel_rfl) (by kernel_rfl) (by kernel_rfl) (by kernel_rfl) (by kernel_rfl) ?_
   repeat (first|refine V2_of G G G G G G G G G G G ?_|refine V2_pure G (pv_indexAddr G G (by omega)) G G G G G G G G G ?_|refine V2_load G (yF G) (zL (vs:=[_,_,_,_,_,_,_,_,_,_]) G G G) G G G G G G G G G ?_|refine V2_load G (yF G) (zH G (by assumption) G) G G G G G G G G G ?_)
   refine V2_call G G G G G G G G G (zQ G G G) happ (Kept.all _) G G G G G G G G G ?_
   rintro _ _ ⟨e1,e2,D2,h,hr,rfl,how,hor,rfl⟩
   obtain ⟨m1,qm1,m2,qm2,m3,qm3,m4,qm4,m5,qm5,m6,qm6,m7,qm7,w1,w2,w3,w4,w5,w6,w7,rfl,_,_,_,_,_,_,_,rfl⟩:=id how
   obtain ⟨a8,c8,e28,_⟩:=id hor
   obtain rfl:e2=[.int .i64 (applyF (playF s (l.take k)).1 l[k]).2.code,.slice a8 (applyF (playF s (l.take k)).1 l[k]).2.data.length c8]:=by simpa using e28
   refine ⟨(by repeat (first|exact trivial|exact zG G (zS G)|exact zL G G G|exact zX G (by assumption) G|exact zH G (by assumption) G|exact zH G (by assumption) (by assumption)|refine ⟨?_,?_⟩)),?_⟩
   repeat (refine V2_of G G G G G G G G G G G ?_)
   refine V2_now G G G G G G (fun b8=>?_) (fun b9=>?_)
   ·refine V_now G G G G (fun b9=>?_)
    refine W_eff G G G G (ev_storeA (vs:=[_,_,_,_,_,_,_,_,_,_]) G G G G (c:=[_,_,_,_,_,_,_,_,_,_]) (Nat.le_of_ble_eq_true G) (c':=[_,_,_,_,_,_,_,_,_,_]) G) (Kept.all _) ?_
    rintro _ _ rfl
    refine ⟨(by repeat (first|exact trivial|exact zG G (zS G)|exact zL G G G|exact zX G (by assumption) G|exact zH G (by assumption) G|exact zH G (by assumption) (by assumption)|refine ⟨?_,?_⟩)),?_⟩
    skip
    refine W_eff G G G G (ev_storeA (vs:=[_,_]) G G G G (c:=[_,_]) (Nat.le_of_ble_eq_true G) (c':=[_,_]) G) (Kept.all _) ?_
    rintro _ _ rfl
    refine ⟨(by repeat (first|exact trivial|exact zG G (zS G)|exact zL G G G|exact zX G (by assumption) G|exact zH G (by assumption) G|exact zH G (by assumption) (by assumption)|refine ⟨?_,?_⟩)),?_⟩
    repeat (refine yJ ?_)
    exact ⟨b8,b9,_,_,D2,_,hr,_,(by repeat (first|exact zT _|refine zO G ?_)),how,hor,yK.out⟩
   ·refine V_now G G G G (fun b8=>?_)
    refine W_eff G G G G (ev_storeA (vs:=[_,_,_,_,_,_,_,_,_,_]) G G G G (c:=[_,_,_,_,_,_,_,_,_,_]) (Nat.le_of_ble_eq_true G) (c':=[_,_,_,_,_,_,_,_,_,_]) G) (Kept.all _) ?_
    rintro _ _ rfl
    refine ⟨(by repeat (first|exact trivial|exact zG G (zS G)|exact zL G G G|exact zX G (by assumption) G|exact zH G (by assumption) G|exact zH G (by assumption) (by assumption)|refine ⟨?_,?_⟩)),?_⟩
    skip
    refine W_eff G G G G (ev_storeA (vs:=[_,_]) G G G G (c:=[_,_]) (Nat.le_of_ble_eq_true G) (c':=[_,_]) G) (Kept.all _) ?_
    rintro _ _ rfl
    refine ⟨(by repeat (first|exact trivial|exact zG G (zS G)|exact zL G G G|exact zX G (by assumption) G|exact zH G (by assumption) G|exact zH G (by assumption) (by assumption)|refine ⟨?_,?_⟩)),?_⟩
    repeat (refine yJ ?_)
    exact ⟨b8,b9,_,_,D2,_,hr,_,(by repeat (first|exact zT _|refine zO G ?_)),how,hor,yK.out⟩
  ·rintro g' _ ⟨b8,b9,e1,e2,D2,h,hr,R,hsub,how,hor,rfl⟩
   refine hold_env hsub ?_
   clear hsub g'
   have hrd2:RdShd w0 (D2+h) (playF s (l.take (k+1))).1 e1:=by rw [hsucc]; exact how.rd
   obtain ⟨m1,qm1,m2,qm2,m3,qm3,m4,qm4,m5,qm5,m6,qm6,m7,qm7,w1,w2,w3,w4,w5,w6,w7,rfl,_,_,_,_,_,_,_,rfl⟩:=id how
   obtain ⟨a8,c8,e28,_⟩:=id hor
   obtain rfl:e2=[.int .i64 (applyF (playF s (l.take k)).1 l[k]).2.code,.slice a8 (applyF (playF s (l.take k)).1 l[k]).2.data.length c8]:=by simpa using e28
   repeat (first|refine zF ?_|refine zB ?_|refine zE ?_|refine zK G G G ?_|refine zZ G G G G G ?_|refine L_ld G G G G G ?_|refine L_ldA G (vs:=[_,_,_,_,_,_,_,_,_,_]) G G G G G ?_|refine L_stA G (vs:=[_,_,_,_,_,_,_,_,_,_]) G G G G (c':=[_,_,_,_,_,_,_,_,_,_]) G G ?_|refine L_bs (vs:=[_]) (cells:=[_]) G G G G G G (fun _=>?_))
   refine L_eff G G (ev_appendL (X:=0) (ns:=[(applyF (playF s (l.take k)).1 l[k]).2.code]) (h:=ho) G G hov (rd_one G) (All2.one G) G G G G G (by rw [g2,List.length_singleton]; omega)) ?_
   rintro vo' _ ⟨ho',hov',rfl⟩
   repeat (first|refine zB ?_|refine zE ?_|refine zK G G G ?_|refine L_add G G (by omega) (by omega) G G ?_)
   exact ⟨hx,_,(by repeat (first|exact zT _|refine zO G ?_)),_,vo',D+(D2+(w1+w2+w3+w4+w5+w6+w7)),ho',_,rfl,hrd2.mono (show X+(D+(D2+(w1+w2+w3+w4+w5+w6+w7)))=(D2+(w1+w2+w3+w4+w5+w6+w7))+(X+D) by ac_rfl),by rw [hsucc]; exact hov',yK.out⟩
 ·rw [List.take_of_length_le (by omega)] at hrk hov ⊢
  repeat (first|refine zF ?_|refine yD ?_|refine zB ?_|refine zE ?_|refine zK G G G ?_|refine zM ?_|refine zI G ?_|refine L_ldA G (vs:=[_,_,_,_,_,_,_,_,_,_]) G G G G G ?_|refine L_stA G (vs:=[_,_,_,_,_,_,_,_,_,_]) G G G G (c':=[_,_,_,_,_,_,_,_,_,_]) G G ?_)
  exact ⟨[_,_],X+D+ho,_,⟨⟨_,rfl,zL G G G⟩,rfl,trivial⟩,⟨_,vo,D,ho,rfl,hrk,hov,rfl⟩,yK.out⟩
end Sl
end Go.Proofs.YtpkealohodeifaaGreat
namespace Go.Proofs.YtpkealohodeifaaGreat
open Go Go.RowKit
namespace Sl
set_option maxHeartbeats 16000000
set_option maxRecDepth 4000
set_option synthInstance.maxHeartbeats 400000
set_option synthInstance.maxSize 100000
attribute [local irreducible] Hold HoldL HoldW
abbrev worksOps :List Opn:=[rd0 1 1048577 5 4,wr0 1 2097153 3 4 7,rd0 2 1048577 5 5,rd0 3 1048578 9 4,de0 2097153 1]
theorem works_codes :(playF (newS 0 10 1) worksOps).2=[0,0,24,11,0]:=by decide +kernel
theorem works_last :(applyF (playF (newS 0 10 1) worksOps).1 (rd0 4 1048578 9 4)).2=⟨0,[7,0,0,0]⟩∧(applyF (playF (newS 0 10 1) worksOps).1 (rd0 4 1048578 9 4)).1.locks.length=1:=by decide +kernel
theorem rd0_rd (w0:World) (X:Hp) (seq txn age block:Int):Rep.rd w0 X (rd0 seq txn age block) (cellsO (rd0 seq txn age block) nils nils nils nils) :=
 ⟨none,0,none,0,none,0,none,0,rfl,RdL.nil _ _ _,RdL.nil _ _ _,RdL.nil _ _ _,RdL.nil _ _ _⟩
theorem de0_rd (w0:World) (X:Hp) (txn value:Int):Rep.rd w0 X (de0 txn value) (cellsO (de0 txn value) nils nils nils nils) :=
 ⟨none,0,none,0,none,0,none,0,rfl,RdL.nil _ _ _,RdL.nil _ _ _,RdL.nil _ _ _,RdL.nil _ _ _⟩
abbrev wrH (b1 b2 b3:Nat) (block:Int) (b:Bt):Hp:=pt b1 (.cells [.int .i64 1].toArray 3 (0,0))+pt b2 (.cells [.int .u8 (b.val:Int),.int .u8 0,.int .u8 0,.int .u8 0].toArray 5 (0,0))+pt b3 (.cells [.int .i64 block,sl1 b2 4].toArray 100 (0,0))
theorem wr0_rd (w0:World) (seq txn age block:Int) (b:Bt) (b1 b2 b3:Nat):Rep.rd w0 (wrH b1 b2 b3 block b) (wr0 seq txn age block b) (cellsO (wr0 seq txn age block b) (sl1 b1 1) nils (sl1 b3 1) nils):=by
 have hp:RdL w0 (pt b1 (.cells [.int .i64 1].toArray 3 (0,0))) (sl1 b1 1) [(1:Int)]:=ints_block (b:=b1) [1] (by simp)
 have hb:OwL w0 0 [b,0,0,0] (sl1 b2 4) (pt b2 (.cells [.int .u8 (b.val:Int),.int .u8 0,.int .u8 0,.int .u8 0].toArray 5 (0,0))) :=
  OwL.block (ρ:=repB) (xs:=[b,0,0,0]) (es:=[cellB b,cellB 0,cellB 0,cellB 0]) (b:=b2) (rdB_enc.2 G) (by simp [maxLen])
 have hw:OwL w0 (pt b2 (.cells [.int .u8 (b.val:Int),.int .u8 0,.int .u8 0,.int .u8 0].toArray 5 (0,0))) [(⟨block,[b,0,0,0]⟩:Wr)] (sl1 b3 1) (pt b3 (.cells [.int .i64 block,sl1 b2 4].toArray 100 (0,0))) :=
  OwL.block (ρ:=repWr) (xs:=[(⟨block,[b,0,0,0]⟩:Wr)]) (es:=[[.int .i64 block,sl1 b2 4]]) (b:=b3) (All2.one (show Rep.rd w0 _ (⟨block,[b,0,0,0]⟩:Wr) _ from ⟨some ⟨b2,0,none⟩,4,rfl,hb.rdh⟩)) (by simp [maxLen])
 exact ⟨some ⟨b1,0,none⟩,1,none,0,some ⟨b3,0,none⟩,1,none,0,rfl,hp.mono (hadd_assoc _ _ _),RdL.nil _ _ _,hw.rd0.mono (show wrH b1 b2 b3 block b=_+pt b1 _ by unfold wrH; ac_rfl),RdL.nil _ _ _⟩
theorem works22_spec (w0:World):Spec Tryz.prog w0 10 [] 0 (fun r h'=>r=.bool true∧0=h'):=by
 have hg0:Good 0 (newS 0 10 1):=newS_good (by unfold FirstP; omega)
 refine zN Tryz.func10 G Tryz.ntmps10 Tryz.results10 G fun fr=>?_
 repeat (first|refine zF ?_|refine zB ?_|refine zE ?_|refine zK G G G ?_)
 refine zY G G (zQ G G G) (one22_spec w0 1 (by omega) (by omega)) ?_
 rintro _ _ ⟨rfl,rfl⟩
 rw [show (1:Int)*1048576+1=1048577 from rfl]
 skip
 refine zY G G (zQ G G G) (one22_spec w0 2 (by omega) (by omega)) ?_
 rintro _ _ ⟨rfl,rfl⟩
 rw [show (2:Int)*1048576+1=2097153 from rfl]
 repeat (first|refine zF ?_|refine zB ?_|refine zE ?_|refine zK G G G ?_|refine L_build (vs:=[_,_]) (cells:=[_,_,_,_,_,_,_,_,_,_]) G G G G ?_)
 refine zY G G (zQ G G G) (read0_spec w0 1 1048577 5 4) ?_
 rintro _ _ ⟨rfl,rfl⟩
 repeat (refine zK G G G ?_)
 refine zY G G (zQ G G G) (write0_spec w0 1 2097153 3 4 7) ?_
 rintro _ _ ⟨c1,c2,c3,rfl,rfl⟩
 repeat (refine zK G G G ?_)
 refine zY G G (zQ G G G) (read0_spec w0 2 1048577 5 5) ?_
 rintro _ _ ⟨rfl,rfl⟩
 repeat (first|refine zK G G G ?_|refine L_add G G (by omega) (by omega) G G ?_)
 rw [show (1048577:Int)+1=1048578 from rfl]
 refine zY G G (zQ G G G) (read0_spec w0 3 1048578 9 4) ?_
 rintro _ _ ⟨rfl,rfl⟩
 repeat (refine zK G G G ?_)
 refine zY G G (zQ G G G) (decide0_spec w0 2097153 1) ?_
 rintro _ _ ⟨rfl,rfl⟩
 repeat (refine L_bs (vs:=[_,_,_,_,_]) (cells:=[_,_,_,_,_,_,_,_,_,_,_,_,_,_,_,_,_,_,_,_,_,_,_,_,_,_,_,_,_,_,_,_,_,_,_,_,_,_,_,_,_,_,_,_,_,_,_,_,_,_,_,_,_,_,_,_,_,_,_,_,_,_,_,_,_,_,_,_,_,_,_,_,_,_,_,_,_,_,_,_,_,_,_,_,_]) G G G G G G (fun _=>?_))
 rename_i bl
 have hops:OwL w0 (wrH c1 c2 c3 4 7) worksOps (sl1 bl 5) (pt bl (.cells ([cellsO (rd0 1 1048577 5 4) nils nils nils nils,cellsO (wr0 1 2097153 3 4 7) (sl1 c1 1) nils (sl1 c3 1) nils,cellsO (rd0 2 1048577 5 5) nils nils nils nils,cellsO (rd0 3 1048578 9 4) nils nils nils nils,cellsO (de0 2097153 1) nils nils nils nils]:List (List Value)).flatten.toArray 49 (0,0))) :=
  OwL.block (ρ:=repOpn) (xs:=worksOps) (b:=bl) ⟨rd0_rd w0 _ 1 1048577 5 4,wr0_rd w0 1 2097153 3 4 7 c1 c2 c3,rd0_rd w0 _ 2 1048577 5 5,rd0_rd w0 _ 3 1048578 9 4,de0_rd w0 _ 2097153 1,trivial⟩ (by simp [maxLen])
 have hplay:=play22_spec w0 _ (newS 0 10 1) _ (sl1 bl 5) worksOps 0 (newS_rd w0 _ 0 10 1) hops.rd0 hg0 (by decide) (by unfold NumsIn; decide) (by intro o ho; simp only [worksOps,List.mem_cons,List.not_mem_nil,or_false] at ho; rcases ho with rfl|rfl|rfl|rfl|rfl<;>(unfold SmallO; simp [rd0,wr0,de0]))
 obtain ⟨g5,hcl⟩:=playF_good hg0 (l:=worksOps) (by decide) 5 (by decide)
 rw [show worksOps.take 5=worksOps from rfl] at g5 hcl
 obtain ⟨wl1,wl2⟩:=works_last
 rw [works_codes] at hplay
 generalize hpl:(playF (newS 0 10 1) worksOps).1=s5 at *
 skip
 refine holdL_heap (R:=0) (pt bl (.cells ([cellsO (rd0 1 1048577 5 4) nils nils nils nils,cellsO (wr0 1 2097153 3 4 7) (sl1 c1 1) nils (sl1 c3 1) nils,cellsO (rd0 2 1048577 5 5) nils nils nils nils,cellsO (rd0 3 1048578 9 4) nils nils nils nils,cellsO (de0 2097153 1) nils nils nils nils]:List (List Value)).flatten.toArray 49 (0,0))+(wrH c1 c2 c3 4 7+fr)) (by simp only [hzero_add,yB]; rfl) ?_
 refine zY G G (zQ G G G) hplay ?_
 rintro _ _ ⟨e1,vo,D,ho,rfl,hrd,hov,rfl⟩
 generalize wrH c1 c2 c3 4 7+pt bl (.cells ([cellsO (rd0 1 1048577 5 4) nils nils nils nils,cellsO (wr0 1 2097153 3 4 7) (sl1 c1 1) nils (sl1 c3 1) nils,cellsO (rd0 2 1048577 5 5) nils nils nils nils,cellsO (rd0 3 1048578 9 4) nils nils nils nils,cellsO (de0 2097153 1) nils nils nils nils]:List (List Value)).flatten.toArray 49 (0,0))=Y at *
 have happ:=apply22_spec w0 (Y+D) s5 e1 (rd0 4 1048578 9 4) (cellsO (rd0 4 1048578 9 4) nils nils nils nils) 5 hrd (rd0_rd w0 _ 4 1048578 9 4) (by simpa using g5) (by omega) (by unfold NumsIn; decide) (by unfold SmallO; simp [rd0])
 obtain ⟨k1,qk1,k2,qk2,k3,qk3,k4,qk4,k5,qk5,k6,qk6,k7,qk7,rfl,_,_,_,_,_,_,_⟩:=id hrd
 obtain ⟨av,cv,rfl⟩:=hov.shape
 generalize applyF s5 (rd0 4 1048578 9 4)=ap at *
 obtain ⟨s6,r6⟩:=ap
 simp only at wl1 wl2
 subst wl1
 repeat (first|refine zF ?_|refine zE ?_|refine zK G G G ?_|refine L_stA G (vs:=[_,_,_,_,_,_,_,_,_,_]) G G G G (c':=[_,_,_,_,_,_,_,_,_,_]) G G ?_|refine L_alloc (c:=[_,_,_,_,_,_,_,_,_,_]) G G G (fun _=>?_))
 rename_i b3
 refine hold_join (fun g' L'=>∃ (b8 b9:Nat) (e1 e2:List Value) (D2 h hr R:Hp),Sub g' [(4,.slice av 5 cv),(5,.pointer (some ⟨b8,0,none⟩)),(6,.pointer (some ⟨b9,0,none⟩))]∧OwShd w0 D2 s6 e1 h∧OwR w0 ⟨0,[7,0,0,0]⟩ (.agg e2.toArray) hr ∧
  L'=(D2+h+hr)+ho+pt b8 (.cells e1.toArray 33 (0,0))+pt b9 (.cells e2.toArray 51 (0,0))+fr+R) ?_ ?_
 ·refine hold_drawV2 [3,4,8,9,10,11] [0,1,2,3,4,5,6,7] [9,10,11] [8,10,11] 8 5 [.int .i64 0,.int .i64 0,.int .i64 0,.slice none 0 0,.slice none 0 0,.slice none 0 0,.slice none 0 0,.slice none 0 0,.slice none 0 0,.slice none 0 0] 33 9 6 [.int .i64 0,.slice none 0 0] 51 (by kernel_rfl) G G (by kernel_rfl) (by kernel_rfl) (by kernel_rfl) (by kernel_rfl) (by kernel_rfl) (by kernel_rfl) ?_
  repeat (first|refine V2_of G G G G G G G G G G G ?_|refine V2_pure G (pv_add G G (by omega) (by omega)) G G G G G G G G G ?_|refine V2_load G (yF G) (zL (vs:=[_,_,_,_,_,_,_,_,_,_]) G G G) G G G G G G G G G ?_)
  rw [show (1048577:Int)+1=1048578 from rfl]
  refine V2_call G G G G G G G G G (zQ G G G) (read0_spec w0 4 1048578 9 4) (Kept.all _) G G G G G G G G G ?_
  rintro _ _ ⟨rfl,rfl⟩
  refine ⟨(by repeat (first|exact trivial|exact zG G (zS G)|exact zL G G G|exact zX G (by assumption) G|exact zH G (by assumption) G|exact zH G (by assumption) (by assumption)|refine ⟨?_,?_⟩)),?_⟩
  refine V2_call G G G G G G G G G (zQ G G G) happ (Kept.all _) G G G G G G G G G ?_
  rintro _ _ ⟨e1,e2,D2,h,hr,rfl,how,hor,rfl⟩
  obtain ⟨m1,qm1,m2,qm2,m3,qm3,m4,qm4,m5,qm5,m6,qm6,m7,qm7,w1,w2,w3,w4,w5,w6,w7,rfl,_,_,_,_,_,_,_,rfl⟩:=id how
  obtain ⟨a8,c8,e28,_⟩:=id hor
  obtain rfl:e2=[.int .i64 0,.slice a8 4 c8]:=by simpa using e28
  refine ⟨(by repeat (first|exact trivial|exact zG G (zS G)|exact zL G G G|exact zX G (by assumption) G|exact zH G (by assumption) G|exact zH G (by assumption) (by assumption)|refine ⟨?_,?_⟩)),?_⟩
  repeat (refine V2_of G G G G G G G G G G G ?_)
  refine V2_now G G G G G G (fun b8=>?_) (fun b9=>?_)
  ·refine V_now G G G G (fun b9=>?_)
   refine W_eff G G G G (ev_storeA (vs:=[_,_,_,_,_,_,_,_,_,_]) G G G G (c:=[_,_,_,_,_,_,_,_,_,_]) (Nat.le_of_ble_eq_true G) (c':=[_,_,_,_,_,_,_,_,_,_]) G) (Kept.all _) ?_
   rintro _ _ rfl
   refine ⟨(by repeat (first|exact trivial|exact zG G (zS G)|exact zL G G G|exact zX G (by assumption) G|exact zH G (by assumption) G|exact zH G (by assumption) (by assumption)|refine ⟨?_,?_⟩)),?_⟩
   skip
   refine W_eff G G G G (ev_storeA (vs:=[_,_]) G G G G (c:=[_,_]) (Nat.le_of_ble_eq_true G) (c':=[_,_]) G) (Kept.all _) ?_
   rintro _ _ rfl
   refine ⟨(by repeat (first|exact trivial|exact zG G (zS G)|exact zL G G G|exact zX G (by assumption) G|exact zH G (by assumption) G|exact zH G (by assumption) (by assumption)|refine ⟨?_,?_⟩)),?_⟩
   repeat (refine yJ ?_)
   exact ⟨b8,b9,_,_,D2,_,hr,_,(by repeat (first|exact zT _|refine zO G ?_)),how,hor,yK.out⟩
  ·refine V_now G G G G (fun b8=>?_)
   refine W_eff G G G G (ev_storeA (vs:=[_,_,_,_,_,_,_,_,_,_]) G G G G (c:=[_,_,_,_,_,_,_,_,_,_]) (Nat.le_of_ble_eq_true G) (c':=[_,_,_,_,_,_,_,_,_,_]) G) (Kept.all _) ?_
   rintro _ _ rfl
   refine ⟨(by repeat (first|exact trivial|exact zG G (zS G)|exact zL G G G|exact zX G (by assumption) G|exact zH G (by assumption) G|exact zH G (by assumption) (by assumption)|refine ⟨?_,?_⟩)),?_⟩
   skip
   refine W_eff G G G G (ev_storeA (vs:=[_,_]) G G G G (c:=[_,_]) (Nat.le_of_ble_eq_true G) (c':=[_,_]) G) (Kept.all _) ?_
   rintro _ _ rfl
   refine ⟨(by repeat (first|exact trivial|exact zG G (zS G)|exact zL G G G|exact zX G (by assumption) G|exact zH G (by assumption) G|exact zH G (by assumption) (by assumption)|refine ⟨?_,?_⟩)),?_⟩
   repeat (refine yJ ?_)
   exact ⟨b8,b9,_,_,D2,_,hr,_,(by repeat (first|exact zT _|refine zO G ?_)),how,hor,yK.out⟩
 ·rintro g' _ ⟨b8,b9,e1,e2,D2,h,hr,R,hsub,how,hor,rfl⟩
  refine hold_env hsub ?_
  clear hsub g'
  obtain ⟨m1,qm1,m2,qm2,m3,qm3,m4,qm4,m5,qm5,m6,qm6,m7,qm7,w1,w2,w3,w4,w5,w6,w7,rfl,_,_,_,_,_,_,_,rfl⟩:=id how
  obtain ⟨a8,c8,e28,o8⟩:=id hor
  obtain rfl:e2=[.int .i64 0,.slice a8 4 c8]:=by simpa using e28
  repeat (first|refine zF ?_|refine zB ?_|refine zK G G G ?_|refine L_bs (vs:=[_,_,_,_,_]) (cells:=[_,_,_,_,_]) G G G G G G (fun _=>?_))
  rename_i bc
  have hsi:=sameI_spec w0 (ho+intsAt bc [0,0,24,11,0]) (.slice av 5 cv) (sl1 bc 5) [0,0,24,11,0] [0,0,24,11,0] (hov.rdh.mono G) ((ints_block (b:=bc) [0,0,24,11,0] (by simp)).mono (hadd_comm _ _)) (by simp) (by simp)
  change Spec _ _ _ _ (ho+pt bc (.cells [.int .i64 0,.int .i64 0,.int .i64 24,.int .i64 11,.int .i64 0].toArray 3 (0,0))) _ at hsi
  refine zY G G (zQ G G G) hsi ?_
  rintro _ _ ⟨rfl,rfl⟩
  rw [decide_eq_true (rfl:([0,0,24,11,0]:List Int)=[0,0,24,11,0])]
  repeat (first|refine zK G G G ?_|refine zZ G G G G G ?_|refine L_ld G G G G G ?_)
  refine L_yes G G (pv_eql G G) G ?_
  repeat (first|refine zK G G G ?_|refine zZ G G G G G ?_|refine L_ld G G G G G ?_|refine L_bs (vs:=[_,_,_,_]) (cells:=[_,_,_,_]) G G G G G G (fun _=>?_))
  rename_i bd
  have hbd:RdL w0 (pt bd (.cells [.int .u8 7,.int .u8 0,.int .u8 0,.int .u8 0].toArray 5 (0,0))) (sl1 bd 4) ([7,0,0,0]:List Bt) :=
   (OwL.block (ρ:=repB) (w0:=w0) (X:=0) (xs:=[7,0,0,0]) (es:=[cellB 7,cellB 0,cellB 0,cellB 0]) (b:=bd) (rdB_enc.2 G) (by simp [maxLen])).rdh
  refine zY G G (zQ G G G) (sameB_spec w0 (hr+pt bd (.cells [.int .u8 7,.int .u8 0,.int .u8 0,.int .u8 0].toArray 5 (0,0))) (.slice a8 4 c8) (sl1 bd 4) [7,0,0,0] [7,0,0,0] (o8.rdh.mono G) (hbd.mono (hadd_comm _ _)) (by simp) (by simp)) ?_
  rintro _ _ ⟨rfl,rfl⟩
  rw [decide_eq_true (rfl:([7,0,0,0]:List Bt)=[7,0,0,0])]
  repeat (first|refine zK G G G ?_|refine zZ G G G G G ?_|refine L_ld G G G G G ?_|refine L_len G G G ?_)
  rw [wl2]
  refine L_yes G G (pv_eql G G) G ?_
  repeat (first|refine zE ?_|refine zK G G G ?_|refine zM ?_)
  exact ⟨[_],0,_,⟨rfl,trivial⟩,⟨rfl,rfl⟩,yK.out⟩
end Sl
end Go.Proofs.YtpkealohodeifaaGreat
namespace Go.Proofs.YtpkealohodeifaaGreat
open Go Go.RowKit
namespace Sl
set_option maxHeartbeats 16000000
set_option maxRecDepth 4000
set_option synthInstance.maxHeartbeats 400000
set_option synthInstance.maxSize 100000
attribute [local irreducible] Hold HoldL HoldW
structure SizeS (s:Shd):Prop where
 bl:s.blocks.length≤1000000000∧∀ x∈s.blocks,x.data.length≤1000000000
 kp:s.kept.length≤1000000000∧∀ x∈s.kept,x.data.length≤1000000000
 lk:s.locks.length≤1000000000
 pr:s.preps.length≤1000000000∧∀ x∈s.preps,x.parts.length≤1000000000∧x.writes.length≤1000000000∧∀ w∈x.writes,w.data.length≤1000000000
 dd:s.dead.length≤1000000000
 ou:s.outs.length≤1000000000∧∀ x∈s.outs,x.data.length≤1000000000
 se:s.sess.length≤1000000000∧∀ x∈s.sess,x.res.data.length≤1000000000
theorem sameShd1_spec (w0:World) (X:Hp) (x y:Shd) (e f:List Value) (he:RdShd w0 X x e) (hf:RdShd w0 X y f) (hx:SizeS x) (hy:SizeS y) :
  Spec Tryz.prog w0 14 [.agg e.toArray,.agg f.toArray] X (fun r h'=>r=.bool (decide (x=y))∧X=h'):=by
 obtain ⟨x1,qx1,x2,qx2,x3,qx3,x4,qx4,x5,qx5,x6,qx6,x7,qx7,rfl,rx1,rx2,rx3,rx4,rx5,rx6,rx7⟩:=he
 obtain ⟨y1,qy1,y2,qy2,y3,qy3,y4,qy4,y5,qy5,y6,qy6,y7,qy7,rfl,ry1,ry2,ry3,ry4,ry5,ry6,ry7⟩:=hf
 refine zN Tryz.func14 G Tryz.ntmps14 Tryz.results14 G fun fr=>?_
 repeat (first|refine zF ?_|refine zB ?_|refine zE ?_|refine zK G G G ?_|refine zZ G G G G G ?_|refine L_ld G G G G G ?_|refine L_box G (c:=[_,_,_,_,_,_,_,_,_,_]) G G G (fun _=>?_))
 refine yG G G (pv_eql G G) (fun q0=>?_) (fun q0=>?_)
 rotate_left
 ·repeat (first|refine zF ?_|refine zB ?_|refine zE ?_|refine zK G G G ?_|refine L_skip G G ?_|refine zM ?_)
  exact ⟨[_],X,_,⟨rfl,trivial⟩,⟨bool_F (fun h=>q0 (by rw [h])),rfl⟩,yK.out⟩
 ·repeat (first|refine zK G G G ?_|refine zZ G G G G G ?_|refine L_ld G G G G G ?_)
  skip
  refine yG G G (pv_eql G G) (fun q1=>?_) (fun q1=>?_)
  rotate_left
  ·repeat (first|refine zF ?_|refine zB ?_|refine zE ?_|refine zK G G G ?_|refine L_skip G G ?_|refine zM ?_)
   exact ⟨[_],X,_,⟨rfl,trivial⟩,⟨bool_F (fun h=>q1 (by rw [h])),rfl⟩,yK.out⟩
  ·repeat (first|refine zK G G G ?_|refine zZ G G G G G ?_|refine L_ld G G G G G ?_)
   skip
   refine yG G G (pv_eql G G) (fun q2=>?_) (fun q2=>?_)
   rotate_left
   ·repeat (first|refine zF ?_|refine zB ?_|refine zE ?_|refine zK G G G ?_|refine L_skip G G ?_|refine zM ?_)
    exact ⟨[_],X,_,⟨rfl,trivial⟩,⟨bool_F (fun h=>q2 (by rw [h])),rfl⟩,yK.out⟩
   ·repeat (first|refine zK G G G ?_|refine zZ G G G G G ?_|refine L_ld G G G G G ?_)
    skip
    refine zY G G (zQ G G G) (sameBlks_spec w0 X _ _ x.blocks y.blocks rx1 ry1 hx.bl.1 hy.bl.1 hx.bl.2 hy.bl.2) ?_
    rintro _ _ ⟨rfl,rfl⟩
    by_cases c0:x.blocks=y.blocks
    rotate_left
    ·rw [decide_eq_false c0]
     repeat (first|refine zF ?_|refine zB ?_|refine zE ?_|refine zK G G G ?_|refine L_skip G G ?_|refine zM ?_)
     exact ⟨[_],X,_,⟨rfl,trivial⟩,⟨bool_F (fun h=>c0 (by rw [h])),rfl⟩,yK.out⟩
    ·rw [decide_eq_true c0]
     repeat (first|refine zK G G G ?_|refine zZ G G G G G ?_|refine L_ld G G G G G ?_)
     skip
     refine zY G G (zQ G G G) (sameKpts_spec w0 X _ _ x.kept y.kept rx2 ry2 hx.kp.1 hy.kp.1 hx.kp.2 hy.kp.2) ?_
     rintro _ _ ⟨rfl,rfl⟩
     by_cases c1:x.kept=y.kept
     rotate_left
     ·rw [decide_eq_false c1]
      repeat (first|refine zF ?_|refine zB ?_|refine zE ?_|refine zK G G G ?_|refine L_skip G G ?_|refine zM ?_)
      exact ⟨[_],X,_,⟨rfl,trivial⟩,⟨bool_F (fun h=>c1 (by rw [h])),rfl⟩,yK.out⟩
     ·rw [decide_eq_true c1]
      repeat (first|refine zK G G G ?_|refine zZ G G G G G ?_|refine L_ld G G G G G ?_)
      skip
      refine zY G G (zQ G G G) (sameL_spec w0 X _ _ x.locks y.locks rx3 ry3 hx.lk hy.lk) ?_
      rintro _ _ ⟨rfl,rfl⟩
      by_cases c2:x.locks=y.locks
      rotate_left
      ·rw [decide_eq_false c2]
       repeat (first|refine zF ?_|refine zB ?_|refine zE ?_|refine zK G G G ?_|refine L_skip G G ?_|refine zM ?_)
       exact ⟨[_],X,_,⟨rfl,trivial⟩,⟨bool_F (fun h=>c2 (by rw [h])),rfl⟩,yK.out⟩
      ·rw [decide_eq_true c2]
       repeat (first|refine zF ?_|refine zB ?_|refine zE ?_|refine zK G G G ?_|refine zZ G G G G G ?_|refine L_ld G G G G G ?_)
       skip
       refine zY G G (zQ G G G) (samePrps_spec w0 X _ _ x.preps y.preps rx4 ry4 hx.pr.1 hy.pr.1 hx.pr.2 hy.pr.2) ?_
       rintro _ _ ⟨rfl,rfl⟩
       by_cases c3:x.preps=y.preps
       rotate_left
       ·rw [decide_eq_false c3]
        repeat (first|refine zE ?_|refine zK G G G ?_|refine L_skip G G ?_|refine zM ?_)
        exact ⟨[_],X,_,⟨rfl,trivial⟩,⟨bool_F (fun h=>c3 (by rw [h])),rfl⟩,yK.out⟩
       ·rw [decide_eq_true c3]
        repeat (first|refine zK G G G ?_|refine zZ G G G G G ?_|refine L_ld G G G G G ?_)
        skip
        refine zY G G (zQ G G G) (sameI_spec w0 X _ _ x.dead y.dead rx5 ry5 hx.dd hy.dd) ?_
        rintro _ _ ⟨rfl,rfl⟩
        by_cases c4:x.dead=y.dead
        rotate_left
        ·rw [decide_eq_false c4]
         repeat (first|refine zE ?_|refine zK G G G ?_|refine L_skip G G ?_|refine zM ?_)
         exact ⟨[_],X,_,⟨rfl,trivial⟩,⟨bool_F (fun h=>c4 (by rw [h])),rfl⟩,yK.out⟩
        ·rw [decide_eq_true c4]
         repeat (first|refine zK G G G ?_|refine zZ G G G G G ?_|refine L_ld G G G G G ?_)
         skip
         refine zY G G (zQ G G G) (sameOuts_spec w0 X _ _ x.outs y.outs rx6 ry6 hx.ou.1 hy.ou.1 hx.ou.2 hy.ou.2) ?_
         rintro _ _ ⟨rfl,rfl⟩
         by_cases c5:x.outs=y.outs
         rotate_left
         ·rw [decide_eq_false c5]
          repeat (first|refine zE ?_|refine zK G G G ?_|refine L_skip G G ?_|refine zM ?_)
          exact ⟨[_],X,_,⟨rfl,trivial⟩,⟨bool_F (fun h=>c5 (by rw [h])),rfl⟩,yK.out⟩
         ·rw [decide_eq_true c5]
          repeat (first|refine zK G G G ?_|refine zZ G G G G G ?_|refine L_ld G G G G G ?_)
          skip
          refine zY G G (zQ G G G) (sameSess_spec w0 X _ _ x.sess y.sess rx7 ry7 hx.se.1 hy.se.1 hx.se.2 hy.se.2) ?_
          rintro _ _ ⟨rfl,rfl⟩
          by_cases c6:x.sess=y.sess
          rotate_left
          ·rw [decide_eq_false c6]
           repeat (first|refine zE ?_|refine zK G G G ?_|refine zM ?_)
           exact ⟨[_],X,_,⟨rfl,trivial⟩,⟨bool_F (fun h=>c6 (by rw [h])),rfl⟩,yK.out⟩
          ·rw [decide_eq_true c6]
           repeat (first|refine zE ?_|refine zK G G G ?_|refine zM ?_)
           exact ⟨[_],X,_,⟨rfl,trivial⟩,⟨bool_T (by cases x; cases y; simp only at q0 q1 q2 c0 c1 c2 c3 c4 c5 c6; subst q0 q1 q2 c0 c1 c2 c3 c4 c5 c6; rfl),rfl⟩,yK.out⟩
end Sl
end Go.Proofs.YtpkealohodeifaaGreat
namespace Go.Proofs.YtpkealohodeifaaGreat
open Go Go.RowKit
namespace Sl
set_option maxHeartbeats 16000000
set_option maxRecDepth 4000
set_option synthInstance.maxHeartbeats 400000
set_option synthInstance.maxSize 100000
attribute [local irreducible] Hold HoldL HoldW
def encU (l:List Int):List (List Value):=l.map fun n=>[.int .u8 n]
theorem encU_length (l:List Int):(encU l).length=l.length:=List.length_map _
theorem encU_at {l:List Int} {k:Nat} (h:k<l.length):(encU l)[k]?=some [.int .u8 (l.getD k 0)]:=by simp [encU,h,List.getD]
theorem encU_set (l:List Int) (i:Nat) (n:Int):(encU l).set i [.int .u8 n]=encU (l.set i n):=by simp [encU,List.map_set]
theorem encU_len1 (l:List Int):∀ x∈encU l,x.length=1:=by
 intro x hx
 obtain ⟨n,_,rfl⟩:=List.mem_map.1 hx
 rfl
theorem spoilB_spec (w0:World) (X:Hp) (v:Value) (xs:List Bt) (h:Hp) (hv:OwL w0 X xs v h) (hl:xs.length≤1000000000000):Spec Tryz.prog w0 17 [v] h (fun r h'=>True):=by
 obtain ⟨es,hrow,hes⟩:=hv
 rw [rdB_enc] at hes
 subst hes
 have e1:xs.map cellB=encU (xs.map fun b=>(b.val:Int)):=by unfold encU; rw [List.map_map]; rfl
 rw [e1] at hrow
 have hbnd:(xs.map fun b=>(b.val:Int)).length≤1000000000000:=by rw [List.length_map]; exact hl
 generalize (xs.map fun b=>(b.val:Int))=ys0 at hrow hbnd
 by_cases hne:ys0=[]
 ·subst hne
  obtain ⟨a,c,rfl⟩:=hrow.shape
  refine zN Tryz.func17 G Tryz.ntmps17 Tryz.results17 G fun fr=>?_
  repeat (first|refine zF ?_|refine zR ?_|refine zB ?_|refine zE ?_|refine zK G G G ?_)
  refine hold_loop (fun m g L=>g=[(0,.slice a (encU []).length c),(2,.int .i64 0)]∧L=h+fr) 0 _ ⟨rfl,rfl⟩ (by repeat (first|exact zT _|refine zO G ?_)) ?_
  rintro m g L ⟨rfl,rfl⟩
  repeat (first|refine zF ?_|refine zB ?_|refine zK G G G ?_|refine L_len G G G ?_)
  refine L_no G G (pv_lss G G) (by simp [encU]) ?_
  repeat (first|refine yD ?_|refine zE ?_|refine zI G ?_)
  exact ⟨[],h,0,trivial,trivial,(yB _).symm⟩
 ·obtain ⟨b,cap,spare,rfl,rfl,h1,h2,h3,h4⟩:=hrow.nonempty (by intro e; rw [← List.length_eq_zero_iff,encU_length] at e; exact hne (List.eq_nil_of_length_eq_zero e))
  rw [encU_length] at h2 ⊢
  refine zN Tryz.func17 G Tryz.ntmps17 Tryz.results17 G fun fr=>?_
  repeat (first|refine zF ?_|refine zR ?_|refine zB ?_|refine zE ?_|refine zK G G G ?_)
  refine hold_loop (fun m g L=>∃ (k:Nat) (ys:List Int),ys.length=ys0.length∧k≤ys0.length∧m=ys0.length - k∧g=[(0,.slice (some ⟨b,0,none⟩) ys0.length cap),(2,.int .i64 k)]∧L=pt b (.cells ((encU ys).flatten++spare).toArray 5 (0,0))+fr) _ _
   ⟨0,ys0,rfl,by omega,rfl,rfl,rfl⟩ (by repeat (first|exact zT _|refine zO G ?_)) ?_
  rintro m g L ⟨k,ys,hy,hk,rfl,rfl,rfl⟩
  repeat (first|refine zF ?_|refine zB ?_|refine zK G G G ?_|refine L_len G G G ?_)
  refine yG G G (pv_lss G G) (fun h3=>?_) (fun h3=>?_)
  ·have hx:k<ys.length:=by omega
   have hx2:k<ys0.length:=by omega
   repeat (first|refine zF ?_|refine zR ?_|refine zB ?_|refine zE ?_|refine zK G G G ?_|refine zP ?_|refine zJ G ?_|refine L_idx G G (by omega) G G ?_)
   refine L_ld G (row_get0 (j:=0) (encU_len1 ys) spare (encU_at hx) G) G G G ?_
   refine yH G G (pv_xor G G) ?_
   refine yH G G (pv_indexAddr G G hx2) ?_
   refine L_st G G (row_get0 (j:=0) (encU_len1 ys) spare (encU_at hx) G) (row_set0 (j:=0) (encU_len1 ys) spare _ (encU_at hx) (by omega)) G G G ?_
   repeat (first|refine zB ?_|refine zE ?_|refine zK G G G ?_|refine L_add G G (by omega) (by omega) G G ?_)
   refine ⟨ys0.length - (k+1),_,by omega,(by repeat (first|exact zT _|refine zO G ?_)),k+1,_,?_,by omega,rfl,rfl,by rw [List.set_cons_zero,encU_set]⟩
   simp [hy]
  ·repeat (first|refine yD ?_|refine zE ?_|refine zI G ?_)
   exact ⟨[],_,0,trivial,trivial,(yB _).symm⟩
end Sl
end Go.Proofs.YtpkealohodeifaaGreat
namespace Go.Proofs.YtpkealohodeifaaGreat
open Go Go.RowKit
namespace Sl
set_option maxHeartbeats 16000000
set_option maxRecDepth 4000
set_option synthInstance.maxHeartbeats 400000
set_option synthInstance.maxSize 100000
attribute [local irreducible] Hold HoldL HoldW
def lowF (v:Int) (k:Nat):List Bt:=(List.range k).map (byteAt v)
theorem lowF_length (v:Int) (k:Nat):(lowF v k).length=k:=by simp [lowF]
theorem lowF_succ (v:Int) (k:Nat):lowF v (k+1)=lowF v k++[byteAt v k]:=by simp [lowF,List.range_succ]
theorem lowF_get (v:Int) {k n:Nat} (h:n<(lowF v k).length):(lowF v k)[n]=byteAt v n:=by simp [lowF]
def lowU (v:Int) (k:Nat):Int:=(v % 18446744073709551616) / 2 ^ (8*k)
theorem lowU_in (v:Int) (k:Nat):0≤lowU v k∧lowU v k<18446744073709551616:=by
 unfold lowU
 have h0:(0:Int)<2 ^ (8*k):=Int.pow_pos (by decide)
 have h1:0≤v % 18446744073709551616:=Int.emod_nonneg _ (by decide)
 have h2:v % 18446744073709551616<18446744073709551616:=Int.emod_lt_of_pos _ (by decide)
 refine ⟨Int.ediv_nonneg h1 (by omega),?_⟩
 have:=Int.ediv_le_self (2 ^ (8*k):Int) h1
 omega
theorem lowU_succ (v:Int) (k:Nat):IntKind.u64.wrap ((lowU v k).tdiv 256)=lowU v (k+1):=by
 obtain ⟨h1,h2⟩:=lowU_in v k
 rw [Int.tdiv_eq_ediv_of_nonneg h1,u64_wrap]
 have h3:0≤lowU v k / 256:=Int.ediv_nonneg h1 (by decide)
 have h4:lowU v k / 256≤lowU v k:=Int.ediv_le_self _ h1
 rw [Int.emod_eq_of_lt h3 (by omega)]
 unfold lowU
 rw [Int.ediv_ediv_of_nonneg (Int.le_of_lt (Int.pow_pos (by decide))),show 8*(k+1)=8*k+8 by omega,Int.pow_add]
 rfl
theorem lowU_byte (v:Int) (k:Nat):IntKind.u8.wrap (lowU v k % 256)=((byteAt v k).val:Int):=by
 rw [byteAt_val]
 have h:IntKind.u8.wrap (lowU v k % 256)=lowU v k % 256 % 256:=by
  simp only [IntKind.wrap,IntKind.signed,IntKind.bits]
  simp
 rw [h,Int.emod_emod_of_dvd _ (Int.dvd_refl _)]
 rfl
theorem refPutInt_spec (w0:World) (X:Hp) (v:Value) (b:List Bt) (n:Int) (hv:RdL w0 X v b) (hl:b.length≤1000000000000) :
  Spec Tryz.prog w0 96 [v,.int .i64 n] X (fun r h'=>∃ h,OwL w0 0 (b++be8 n) r h∧X+h=h'):=by
 obtain ⟨a,c,rfl⟩:=hv.shape
 have hu0:IntKind.u64.wrap n=lowU n 0:=by rw [u64_wrap]; unfold lowU; simp
 refine zN Tryz.func96 G Tryz.ntmps96 Tryz.results96 G fun fr=>?_
 repeat (first|refine zF ?_|refine zB ?_|refine zE ?_|refine zK G G G ?_)
 refine yH G G (pv_conv_int G) ?_
 rw [hu0]
 repeat (first|refine zF ?_|refine zR ?_|refine zB ?_|refine zE ?_|refine zK G G G ?_)
 refine hold_count 8 (fun k g L=>∃ (vo:Value) (h R:Hp),g=[(0,.slice a b.length c),(5,vo),(6,.int .u64 (lowU n k)),(7,.int .i64 k)]∧OwL w0 0 (lowF n k) vo h∧L=X+h+fr+R) _
  ⟨.slice none 0 0,0,_,rfl,OwL.nil _ _,by simp only [yB]; exact yK.out⟩ (by repeat (first|exact zT _|refine zO G ?_)) ?_
 rintro k g L hk ⟨vo,h,R,rfl,ho,rfl⟩
 have hin:=lowU_in n k
 have hlk:=lowF_length n k
 repeat (first|refine zF ?_|refine zB ?_|refine zK G G G ?_)
 refine yG G G (pv_lss G G) (fun n1=>?_) (fun n1=>?_)
 ·repeat (first|refine zF ?_|refine zR ?_|refine zB ?_|refine zE ?_|refine zK G G G ?_|refine zP ?_|refine zJ G ?_)
  refine yH G G (pv_rem_nn G G hin.1 (by decide)) ?_
  refine yH G G (pv_conv_to G (lowU_byte n k)) ?_
  repeat (refine L_bs (vs:=[_]) (cells:=[_]) G G G G G G (fun _=>?_))
  refine L_eff G G (ev_appendL (X:=0) (ns:=[byteAt n k]) (h:=h) G G ho (rd_one G) (All2.one G) G G G G G (by simp only [List.length_singleton]; omega)) ?_
  rintro vo' _ ⟨h',ho',rfl⟩
  rw [← lowF_succ] at ho'
  repeat (first|refine zB ?_|refine zE ?_|refine zK G G G ?_)
  refine yH G G (pv_quo G G (by decide)) ?_
  rw [lowU_succ]
  repeat (first|refine zB ?_|refine zE ?_|refine zK G G G ?_|refine L_add G G (by omega) (by omega) G G ?_)
  exact ⟨by omega,_,(by repeat (first|exact zT _|refine zO G ?_)),vo',h',_,rfl,ho',yK.out⟩
 obtain rfl:k=8:=by omega
 have hrl:RdL w0 h vo (lowF n 8):=ho.rdh
 obtain ⟨a2,c2,rfl⟩:=ho.shape
 clear hlk hin
 repeat (first|refine zF ?_|refine zR ?_|refine yD ?_|refine zB ?_|refine zE ?_|refine zK G G G ?_|refine zI G ?_)
 refine hold_count b.length (fun k g L=>∃ (vo:Value) (h2 R:Hp),g=[(0,.slice a b.length c),(5,.slice a2 (lowF n 8).length c2),(8,vo),(9,.int .i64 k)]∧OwL w0 0 (b.take k) vo h2∧L=X+h+h2+fr+R) _
  ⟨.slice none 0 0,0,_,rfl,OwL.nil _ _,by simp only [yB]; exact yK.out⟩ (by repeat (first|exact zT _|refine zO G ?_)) ?_
 rintro k g L hk ⟨vo,h2,R,rfl,ho2,rfl⟩
 repeat (first|refine zF ?_|refine zB ?_|refine zK G G G ?_|refine L_len G G G ?_)
 refine yG G G (pv_lss G G) (fun n2=>?_) (fun n2=>?_)
 ·have hx:k<b.length:=by omega
  obtain ⟨b2,o2,rfl,e,rfl,hat⟩:=hv.at hx
  repeat (first|refine zF ?_|refine zR ?_|refine zB ?_|refine zE ?_|refine zK G G G ?_|refine zP ?_|refine zJ G ?_|refine L_idx G G (by omega) G G ?_|refine L_at G (by assumption) G G G G ?_|refine L_bs (vs:=[_]) (cells:=[_]) G G G G G G (fun _=>?_))
  refine L_eff G G (ev_appendL (X:=0) (ns:=[b[k]]) (h:=h2) G G ho2 (rd_one G) (All2.one G) G G G G G (by simp only [List.length_take,List.length_singleton]; omega)) ?_
  rintro vo' _ ⟨h',ho',rfl⟩
  rw [← List.take_succ_eq_append_getElem hx] at ho'
  repeat (first|refine zB ?_|refine zE ?_|refine zK G G G ?_|refine L_add G G (by omega) (by omega) G G ?_)
  exact ⟨hx,_,(by repeat (first|exact zT _|refine zO G ?_)),vo',h',_,rfl,ho',yK.out⟩
 rw [List.take_of_length_le (by omega)] at ho2
 repeat (first|refine zF ?_|refine zR ?_|refine yD ?_|refine zB ?_|refine zE ?_|refine zK G G G ?_|refine zI G ?_)
 refine hold_count 8 (fun k g L=>∃ (vo:Value) (h3 R:Hp),g=[(5,.slice a2 (lowF n 8).length c2),(8,vo),(10,.int .i64 (7 - (k:Int)))]∧OwL w0 0 (b++(be8 n).take k) vo h3∧L=X+h+h3+fr+R) _
  ⟨vo,h2,_,rfl,by rw [List.take_zero,List.append_nil]; exact ho2,yK.out⟩ (by repeat (first|exact zT _|refine zO G ?_)) ?_
 rintro k g L hk ⟨vo,h3,R,rfl,ho3,rfl⟩
 repeat (first|refine zF ?_|refine zB ?_|refine zK G G G ?_)
 refine yG G G (pv_geq G G) (fun n3=>?_) (fun n3=>?_)
 ·have h8:k<8:=by omega
  have hsn:=be8_snoc n k h8
  have hbl:=be8_length n
  have hx:7 - k<(lowF n 8).length:=by rw [lowF_length]; omega
  have hgt:=lowF_get n hx
  obtain ⟨b2,o2,rfl,e,he,hat⟩:=hrl.at hx
  rw [hgt] at he
  obtain rfl:e=[.int .u8 ((byteAt n (7 - k)).val:Int)]:=he
  rw [show (7:Int) - (k:Int)=((7 - k:Nat):Int) by omega]
  repeat (first|refine zF ?_|refine zR ?_|refine zB ?_|refine zE ?_|refine zK G G G ?_|refine zP ?_|refine zJ G ?_|refine L_idx G G (by omega) G G ?_|refine L_at G (by assumption) G G G G ?_|refine L_bs (vs:=[_]) (cells:=[_]) G G G G G G (fun _=>?_))
  refine L_eff G G (ev_appendL (X:=0) (ns:=[byteAt n (7 - k)]) (h:=h3) G G ho3 (rd_one G) (All2.one G) G G G G G (by simp only [List.length_append,List.length_take,List.length_singleton]; omega)) ?_
  rintro vo' _ ⟨h',ho',rfl⟩
  rw [List.append_assoc,← hsn] at ho'
  repeat (first|refine zB ?_|refine zE ?_|refine zK G G G ?_|refine L_sub G G (by omega) (by omega) G G ?_)
  rw [show ((7 - k:Nat):Int) - 1=7 - ((k+1:Nat):Int) by omega]
  exact ⟨by omega,_,(by repeat (first|exact zT _|refine zO G ?_)),vo',h',_,rfl,ho',yK.out⟩
 ·rw [List.take_of_length_le (by rw [be8_length]; omega)] at ho3
  repeat (first|refine zF ?_|refine yD ?_|refine zB ?_|refine zE ?_|refine zK G G G ?_|refine zM ?_|refine zI G ?_)
  exact ⟨[_],X+h3,_,⟨rfl,trivial⟩,⟨h3,ho3,rfl⟩,yK.out⟩
theorem refPutBlob_spec (w0:World) (X:Hp) (v u:Value) (b p:List Bt) (hv:RdL w0 X v b) (hu:RdL w0 X u p) (hl:b.length≤1000000000000) (hp:p.length≤1000000000000) :
  Spec Tryz.prog w0 98 [v,u] X (fun r h'=>∃ h,OwL w0 0 (b++blob p) r h∧X+h=h'):=by
 have hint:=refPutInt_spec w0 X v b p.length hv hl
 obtain ⟨a,c,rfl⟩:=hv.shape
 obtain ⟨a1,c1,rfl⟩:=hu.shape
 refine zN Tryz.func98 G Tryz.ntmps98 Tryz.results98 G fun fr=>?_
 repeat (first|refine zF ?_|refine zB ?_|refine zE ?_|refine zK G G G ?_|refine L_len G G G ?_)
 refine zY G G (zQ G G G) hint ?_
 rintro vo0 _ ⟨h0,ho0,rfl⟩
 have hb8:=be8_length (p.length:Int)
 repeat (first|refine zF ?_|refine zR ?_|refine zB ?_|refine zE ?_|refine zK G G G ?_)
 refine hold_count p.length (fun k g L=>∃ (vo:Value) (h R:Hp),g=[(1,.slice a1 p.length c1),(5,vo),(6,.int .i64 k)]∧OwL w0 0 (b++be8 p.length++p.take k) vo h∧L=X+h+fr+R) _
  ⟨vo0,h0,_,rfl,by rw [List.take_zero,List.append_nil]; exact ho0,yK.out⟩ (by repeat (first|exact zT _|refine zO G ?_)) ?_
 rintro k g L hk ⟨vo,h,R,rfl,ho,rfl⟩
 repeat (first|refine zF ?_|refine zB ?_|refine zK G G G ?_|refine L_len G G G ?_)
 refine yG G G (pv_lss G G) (fun n1=>?_) (fun n1=>?_)
 ·have hx:k<p.length:=by omega
  obtain ⟨b2,o2,rfl,e,rfl,hat⟩:=hu.at hx
  repeat (first|refine zF ?_|refine zR ?_|refine zB ?_|refine zE ?_|refine zK G G G ?_|refine zP ?_|refine zJ G ?_|refine L_idx G G (by omega) G G ?_|refine L_at G (by assumption) G G G G ?_|refine L_bs (vs:=[_]) (cells:=[_]) G G G G G G (fun _=>?_))
  refine L_eff G G (ev_appendL (X:=0) (ns:=[p[k]]) (h:=h) G G ho (rd_one G) (All2.one G) G G G G G (by simp only [List.length_append,List.length_take,List.length_singleton]; omega)) ?_
  rintro vo' _ ⟨h',ho',rfl⟩
  rw [List.append_assoc,← List.take_succ_eq_append_getElem hx] at ho'
  repeat (first|refine zB ?_|refine zE ?_|refine zK G G G ?_|refine L_add G G (by omega) (by omega) G G ?_)
  exact ⟨hx,_,(by repeat (first|exact zT _|refine zO G ?_)),vo',h',_,rfl,ho',yK.out⟩
 ·rw [List.take_of_length_le (by omega)] at ho
  repeat (first|refine zF ?_|refine yD ?_|refine zB ?_|refine zE ?_|refine zK G G G ?_|refine zM ?_|refine zI G ?_)
  exact ⟨[_],X+h,_,⟨rfl,trivial⟩,⟨h,by unfold blob; rw [← List.append_assoc]; exact ho,rfl⟩,yK.out⟩
theorem refPutInts_spec (w0:World) (X:Hp) (v u:Value) (b:List Bt) (l:List Int) (hv:RdL w0 X v b) (hu:RdL w0 X u l) (hl:b.length≤1000000000000) (hp:l.length≤1000000000000) :
  Spec Tryz.prog w0 97 [v,u] X (fun r h'=>∃ h,OwL w0 0 (b++encInts l) r h∧X+h=h'):=by
 have hint:=refPutInt_spec w0 X v b l.length hv hl
 obtain ⟨a,c,rfl⟩:=hv.shape
 obtain ⟨a1,c1,rfl⟩:=hu.shape
 refine zN Tryz.func97 G Tryz.ntmps97 Tryz.results97 G fun fr=>?_
 repeat (first|refine zF ?_|refine zB ?_|refine zE ?_|refine zK G G G ?_|refine L_len G G G ?_)
 refine zY G G (zQ G G G) hint ?_
 rintro vo0 _ ⟨h0,ho0,rfl⟩
 have hb8:=be8_length (l.length:Int)
 repeat (first|refine zF ?_|refine zR ?_|refine zB ?_|refine zE ?_|refine zK G G G ?_)
 refine hold_count l.length (fun k g L=>∃ (vo:Value) (h R:Hp),g=[(1,.slice a1 l.length c1),(5,vo),(6,.int .i64 k)]∧OwL w0 0 (b++be8 l.length++((l.take k).map be8).flatten) vo h∧L=X+h+fr+R) _
  ⟨vo0,h0,_,rfl,by simp only [List.take_zero,List.map_nil,List.flatten_nil,List.append_nil]; exact ho0,yK.out⟩ (by repeat (first|exact zT _|refine zO G ?_)) ?_
 rintro k g L hk ⟨vo,h,R,rfl,ho,rfl⟩
 repeat (first|refine zF ?_|refine zB ?_|refine zK G G G ?_|refine L_len G G G ?_)
 refine yG G G (pv_lss G G) (fun n1=>?_) (fun n1=>?_)
 ·have hx:k<l.length:=by omega
  have hfl:((l.take k).map be8).flatten.length=8*k:=by have:=encInts_length (l.take k); unfold encInts at this; rw [List.length_append,be8_length,List.length_take] at this; omega
  have hfs:((l.take (k+1)).map be8).flatten=((l.take k).map be8).flatten++be8 l[k]:=flat_take be8 hx
  obtain ⟨b2,o2,rfl,e,rfl,hat⟩:=hu.at hx
  generalize l[k]=y at *
  have hy8:=be8_length y
  repeat (first|refine zF ?_|refine zR ?_|refine zB ?_|refine zE ?_|refine zK G G G ?_|refine zP ?_|refine zJ G ?_|refine L_idx G G (by omega) G G ?_|refine L_at G (by assumption) G G G G ?_)
  refine zY G G (zQ G G G) (refPutInt_spec w0 0 (.slice none 0 0) [] y (RdL.nil _ _ _) (by simp)) ?_
  rintro vx _ ⟨hx2,hox,rfl⟩
  rw [List.nil_append] at hox
  have hrx:RdL w0 hx2 vx (be8 y):=hox.rdh
  obtain ⟨ax,cx,rfl⟩:=hox.shape
  repeat (first|refine zF ?_|refine zR ?_|refine zB ?_|refine zE ?_|refine zK G G G ?_)
  refine hold_count 8 (fun j g L=>∃ (vo:Value) (h2 R:Hp),g=[(1,.slice (some ⟨b2,o2,none⟩) l.length c1),(5,vo),(6,.int .i64 k),(7,.slice ax (be8 y).length cx),(8,.int .i64 j)]∧OwL w0 0 (b++be8 l.length++((l.take k).map be8).flatten++(be8 y).take j) vo h2∧L=X+h2+hx2+fr+R) _
   ⟨vo,h,_,rfl,by rw [List.take_zero,List.append_nil]; exact ho,by simp only [hzero_add]; exact yK.out⟩ (by repeat (first|exact zT _|refine zO G ?_)) ?_
  rintro j g L hj ⟨vo2,h2,R,rfl,ho2,rfl⟩
  repeat (first|refine zF ?_|refine zB ?_|refine zK G G G ?_)
  refine yG G G (pv_lss G G) (fun n2=>?_) (fun n2=>?_)
  ·have hxj:j<(be8 y).length:=by omega
   obtain ⟨b3,o3,rfl,e,rfl,hat3⟩:=hrx.at hxj
   repeat (first|refine zF ?_|refine zR ?_|refine zB ?_|refine zE ?_|refine zK G G G ?_|refine zP ?_|refine zJ G ?_|refine L_idx G G (by omega) G G ?_|refine L_at G (by assumption) G G G G ?_|refine L_bs (vs:=[_]) (cells:=[_]) G G G G G G (fun _=>?_))
   refine L_eff G G (ev_appendL (X:=0) (ns:=[(be8 y)[j]]) (h:=h2) G G ho2 (rd_one G) (All2.one G) G G G G G (by simp only [List.length_append,List.length_take,List.length_singleton]; omega)) ?_
   rintro vo' _ ⟨h',ho',rfl⟩
   rw [List.append_assoc _ ((be8 y).take j),← List.take_succ_eq_append_getElem hxj] at ho'
   repeat (first|refine zB ?_|refine zE ?_|refine zK G G G ?_|refine L_add G G (by omega) (by omega) G G ?_)
   exact ⟨by omega,_,(by repeat (first|exact zT _|refine zO G ?_)),vo',h',_,rfl,ho',yK.out⟩
  ·rw [show (be8 y).take j=be8 y from List.take_of_length_le (by omega),List.append_assoc,← hfs] at ho2
   repeat (first|refine yD ?_|refine zB ?_|refine zE ?_|refine zK G G G ?_|refine zI G ?_|refine L_add G G (by omega) (by omega) G G ?_)
   exact ⟨hx,_,(by repeat (first|exact zT _|refine zO G ?_)),vo2,h2,_,rfl,ho2,yK.out⟩
 ·rw [List.take_of_length_le (by omega)] at ho
  repeat (first|refine zF ?_|refine yD ?_|refine zB ?_|refine zE ?_|refine zK G G G ?_|refine zM ?_|refine zI G ?_)
  exact ⟨[_],X+h,_,⟨rfl,trivial⟩,⟨h,by unfold encInts; rw [← List.append_assoc]; exact ho,rfl⟩,yK.out⟩
def RdrR (w0:World) (D:Hp) (b:Nat) (s:RS) (h:Hp):Prop:=∃ (bs:List Bt) (a:Option Addr) (c at':Nat),
 h=pt b (.cells [.slice a bs.length c,.int .i64 (at':Int),.bool s.bad].toArray 194 (0,0))∧RdL w0 D (.slice a bs.length c) bs∧at'≤bs.length∧bs.length≤1000000000000∧s.wf∧(s.bad=false→s.left=bs.drop at')
theorem RdrR.len {w0:World} {D:Hp} {b:Nat} {s:RS} {h:Hp} (H:RdrR w0 D b s h):s.left.length≤1000000000000:=by
 obtain ⟨bs,a,c,at',_,_,h3,h4,h5,h6⟩:=H
 cases hb:s.bad
 ·rw [h6 hb,List.length_drop]; omega
 ·rw [h5 hb]; simp
theorem refRead_spec (w0:World) (X:Hp) (v:Value) (bs:List Bt) (hv:RdL w0 X v bs) (hl:bs.length≤1000000000000) :
  Spec Tryz.prog w0 63 [v] X (fun r h'=>∃ b D h,r=.pointer (some ⟨b,0,none⟩)∧RdrR w0 D b ⟨bs,false⟩ h∧X+(D+h)=h'):=by
 obtain ⟨a,c,rfl⟩:=hv.shape
 refine zN Tryz.func63 G Tryz.ntmps63 Tryz.results63 G fun fr=>?_
 repeat (first|refine zF ?_|refine zR ?_|refine zB ?_|refine zE ?_|refine zK G G G ?_|refine L_build (vs:=[]) (cells:=[_,_,_]) G G G G ?_|refine L_box G (c:=[_,_,_]) G G G (fun _=>?_))
 rename_i b6
 refine hold_count bs.length (fun k g L=>∃ (a2:Option Addr) (c2:Nat) (h R:Hp),g=[(0,.slice a bs.length c),(3,.pointer (some ⟨b6,0,none⟩)),(4,.int .i64 k)]∧OwL w0 0 (bs.take k) (.slice a2 (bs.take k).length c2) h∧L=X+h+pt b6 (.cells [.slice a2 (bs.take k).length c2,.int .i64 0,.bool false].toArray 194 (0,0))+fr+R) _
  ⟨none,0,0,_,rfl,OwL.nil _ _,by show _=X+0+pt b6 (.cells [.slice none 0 0,.int .i64 0,.bool false].toArray 194 (0,0))+fr+_; simp only [yB]; exact yK.out⟩ (by repeat (first|exact zT _|refine zO G ?_)) ?_
 rintro k g L hk ⟨a2,c2,h,R,rfl,ho,rfl⟩
 repeat (first|refine zF ?_|refine zB ?_|refine zK G G G ?_|refine L_len G G G ?_)
 refine yG G G (pv_lss G G) (fun n1=>?_) (fun n1=>?_)
 ·have hx:k<bs.length:=by omega
  have htk:=List.take_succ_eq_append_getElem hx
  have hlt:(bs.take k).length≤1000000000000:=by rw [List.length_take]; omega
  obtain ⟨b2,o2,rfl,e,rfl,hat0⟩:=hv.at hx
  have hat:At w0 X b2 (o2+k*1) [.int .u8 (bs[k].val:Int)]:=hat0
  clear hat0
  repeat (first|refine zF ?_|refine zR ?_|refine zE ?_|refine zP ?_|refine zJ G ?_)
  refine yC [9,10,13] [0,1,2,3,4,5,6,7,8,9,10,11,12,13] (by kernel_rfl) G (by kernel_rfl) (by kernel_rfl) ?_
  repeat (first|refine yI G G G G G ?_|refine yE G G G G (yA G G G) ?_|refine W_load G G G G (yF G) (zG G (zS G)) ?_|refine W_idx G G G (by omega) G G G ?_|refine W_at G G (by assumption) G G G G G ?_)
  refine W_eff G G G G (ev_buildSlice (vs:=[_]) (cells:=[_]) G G G G) (Kept.all _) ?_
  rintro _ _ ⟨b5,rfl,rfl⟩
  refine ⟨by repeat (first|exact trivial|exact zG G (zS G)|exact zG G ((hat 0 _ rfl).frame)|refine ⟨?_,?_⟩),?_⟩
  refine W_eff G G G G (ev_appendL (X:=0) (ns:=[bs[k]]) (h:=h) G G ho (rd_one G) (All2.one G) G G G G G (by simp only [List.length_singleton]; omega)) (Kept.all _) ?_
  rintro vo' _ ⟨h',ho',rfl⟩
  rw [← htk] at ho'
  obtain ⟨a3,c3,rfl⟩:=ho'.shape
  refine ⟨by repeat (first|exact trivial|exact zG G (zS G)|exact zG G ((hat 0 _ rfl).frame)|refine ⟨?_,?_⟩),?_⟩
  repeat (first|refine yI G G G G G ?_|refine yE G G G G (yA G G G) ?_)
  refine W_eff (W':=?wk1) G G G G (ev_store G G G G G (c':=[_,_,_]) G) ?wkk1 ?wrest1
  case wkk1=>repeat (first|exact Kept.nil|refine Kept.drop (by kernel_rfl) ?_|refine Kept.keep ?_)
  rintro _ _ rfl
  refine ⟨by repeat (first|exact trivial|exact zG G (zS G)|exact zG G ((hat 0 _ rfl).frame)|refine ⟨?_,?_⟩),?_⟩
  repeat (refine yJ ?_)
  repeat (first|refine zB ?_|refine zE ?_|refine zK G G G ?_|refine L_add G G (by omega) (by omega) G G ?_)
  exact ⟨hx,_,(by repeat (first|exact zT _|refine zO G ?_)),a3,c3,h',_,rfl,ho',yK.out⟩
 ·rw [List.take_of_length_le (by omega)] at *
  repeat (first|refine zF ?_|refine yD ?_|refine zB ?_|refine zE ?_|refine zK G G G ?_|refine zM ?_|refine zI G ?_)
  exact ⟨[_],X+(h+pt b6 (.cells [.slice a2 bs.length c2,.int .i64 0,.bool false].toArray 194 (0,0))),_,⟨rfl,trivial⟩,⟨b6,h,_,rfl,⟨bs,a2,c2,0,rfl,ho.rdh,by omega,hl,by simp [RS.wf],fun _=>rfl⟩,rfl⟩,yK.out⟩
theorem refLeft_spec (w0:World) (D:Hp) (b:Nat) (s:RS) (h:Hp) (hr:RdrR w0 D b s h) :
  Spec Tryz.prog w0 148 [.pointer (some ⟨b,0,none⟩)] (D+h) (fun r h'=>r=.int .i64 s.left.length∧D+h=h'):=by
 obtain ⟨bs,a,c,at',rfl,hrd,h3,h4,h5,h6⟩:=hr
 refine zN Tryz.func148 G Tryz.ntmps148 Tryz.results148 G fun fr=>?_
 repeat (first|refine zF ?_|refine zB ?_|refine zE ?_|refine zK G G G ?_|refine zZ G G G G G ?_|refine L_ld G G G G G ?_)
 obtain ⟨left,bad⟩:=s
 cases bad
 ·have e:left=bs.drop at':=h6 G
  subst e
  repeat (first|refine zF ?_|refine zP ?_|refine zI G ?_)
  refine yC [] [0,1,2,3,4,5,6,7,8,9,10] (by kernel_rfl) G (by kernel_rfl) (by kernel_rfl) ?_
  repeat (first|refine yI G G G G G ?_|refine yE G G G G (yA G G G) ?_|refine W_load G G G G (yF G) (zG G (zS G)) ?_|refine yE G G G G (pv_len G) ?_)
  refine yE G G G G (pv_sub G G (by omega) (by omega)) ?_
  repeat (first|refine yJ ?_|refine yI G G G G G ?_)
  repeat (refine zM ?_)
  exact ⟨[_],_,_,⟨rfl,trivial⟩,⟨congrArg (Value.int .i64) (by simp only [List.length_drop]; omega),rfl⟩,yK.out⟩
 ·obtain rfl:left=[]:=h5 rfl
  repeat (first|refine zF ?_|refine zB ?_|refine zE ?_|refine zK G G G ?_|refine zM ?_|refine zJ G ?_)
  exact ⟨[_],_,_,⟨rfl,trivial⟩,⟨rfl,rfl⟩,yK.out⟩
theorem takeOk_no {s:RS} {n:Int} (h:s.bad=true∨n<0∨(s.left.length:Int)<n):takeOk s n=false:=by
 unfold takeOk
 rcases h with h|h|h
 ·rw [h]; rfl
 ·rw [decide_eq_false (by omega),Bool.and_false]
 ·rw [decide_eq_false (by omega),Bool.and_false]
theorem takeOk_yes {s:RS} {n:Int} (h0:s.bad=false) (h1:0≤n) (h2:n≤s.left.length):takeOk s n=true:=by
 unfold takeOk; rw [h0,decide_eq_true ⟨h1,h2⟩]; rfl
theorem mul_byte (a x:Nat) (ha:a<72057594037927936) (hx:x<256):IntKind.u64.wrap (IntKind.u64.wrap ((a:Int)*256)+IntKind.u64.wrap (x:Int))=((a*256+x:Nat):Int):=by
 rw [u64_wrap,u64_wrap,u64_wrap]
 omega
theorem refInt_spec (w0:World) (D:Hp) (b:Nat) (s:RS) (h:Hp) (hr:RdrR w0 D b s h) :
  Spec Tryz.prog w0 64 [.pointer (some ⟨b,0,none⟩)] (D+h) (fun r h'=>∃ h2,r=.int .i64 (intV s)∧RdrR w0 D b (intS s) h2∧D+h2=h'):=by
 have hleft:=refLeft_spec w0 D b s h hr
 have hlen:=hr.len
 obtain ⟨bs,a,c,at',rfl,hrd,h3,h4,h5,h6⟩:=id hr
 refine zN Tryz.func64 G Tryz.ntmps64 Tryz.results64 G fun fr=>?_
 repeat (first|refine zF ?_|refine zB ?_|refine zE ?_|refine zK G G G ?_)
 refine zY G G (zQ G G G) hleft ?_
 rintro _ _ ⟨rfl,rfl⟩
 skip
 refine yG G G (pv_lss G G) (fun n1=>?_) (fun n1=>?_)
 ·have ht:takeOk s 8=false:=takeOk_no (.inr (.inr n1))
  have ev':intV s=0:=by unfold intV; rw [ht]; rfl
  have es:intS s=⟨[],true⟩:=by unfold intS takeS; rw [ht]; rfl
  repeat (first|refine zF ?_|refine zB ?_|refine zE ?_|refine zK G G G ?_|refine zZ G G G G G ?_|refine zM ?_|refine zJ G ?_|refine L_st G G G (c':=[_,_,_]) G G G G ?_)
  exact ⟨[_],D+pt b (.cells [.slice a bs.length c,.int .i64 (at':Int),.bool true].toArray 194 (0,0)),_,⟨rfl,trivial⟩,⟨_,by rw [ev']; rfl,by rw [es]; exact ⟨bs,a,c,at',rfl,hrd,h3,h4,fun _=>rfl,fun h=>by cases h⟩,rfl⟩,yK.out⟩
 ·have hb:s.bad=false:=by
   cases hb:s.bad
   ·rfl
   ·rw [h5 hb] at n1; simp at n1
  have hl:=h6 hb
  have h8:8≤s.left.length:=by omega
  have h9:at'+8≤bs.length:=by rw [hl,List.length_drop] at h8; omega
  have ht:takeOk s 8=true:=takeOk_yes hb (by decide) (by omega)
  have ev':intV s=IntKind.i64.wrap (foldB (s.left.take 8):Int):=by unfold intV; rw [ht,if_pos G]; unfold dec8 takeV; rw [ht,if_pos G]; rfl
  have es:intS s=⟨bs.drop (at'+8),false⟩:=by unfold intS takeS; rw [ht,if_pos G,hl,List.drop_drop]; rfl
  rw [hb]
  repeat (first|refine zF ?_|refine zR ?_|refine zB ?_|refine zE ?_|refine zK G G G ?_|refine zP ?_|refine zI G ?_)
  refine hold_count 8 (fun k g L=>∃ R:Hp,g=[(0,.pointer (some ⟨b,0,none⟩)),(3,.int .u64 (foldB (s.left.take k):Nat)),(4,.int .i64 k)]∧L=D+pt b (.cells [.slice a bs.length c,.int .i64 (at':Int),.bool false].toArray 194 (0,0))+fr+R) _
   ⟨_,rfl,yK.out⟩ (by repeat (first|exact zT _|refine zO G ?_)) ?_
  rintro k g L hk ⟨R,rfl,rfl⟩
  repeat (first|refine zF ?_|refine zB ?_|refine zK G G G ?_)
  refine yG G G (pv_lss G G) (fun n2=>?_) (fun n2=>?_)
  ·have hk8:k<8:=by omega
   have hx:at'+k<bs.length:=by omega
   have hxl:k<s.left.length:=by omega
   have hge:s.left[k]=bs[at'+k]:=by simp only [hl,List.getElem_drop]
   have hlt:foldB (s.left.take k)<72057594037927936:=by
    have h1:=foldB_lt (s.left.take k)
    have h2:256 ^ (s.left.take k).length≤256 ^ 7:=Nat.pow_le_pow_right (by decide) (by rw [List.length_take]; omega)
    have h3:(256:Nat) ^ 7=72057594037927936:=by decide
    omega
   have hsn:=foldB_snoc (s.left.take k) s.left[k]
   rw [← List.take_succ_eq_append_getElem hxl,hge] at hsn
   obtain ⟨b2,o2,rfl,e,rfl,hat⟩:=hrd.at hx
   have hat':At w0 D b2 (o2+(at'+k)*1) [.int .u8 (bs[at'+k].val:Int)]:=hat
   have hbt:=bs[at'+k].isLt
   generalize bs[at'+k].val=y at *
   repeat (first|refine zF ?_|refine zR ?_|refine zE ?_|refine zP ?_|refine zJ G ?_)
   refine yC [] [0,1,2,3,4,5,6,7,8,9,10,11,12,13,14,15,16] (by kernel_rfl) G (by kernel_rfl) (by kernel_rfl) ?_
   repeat (refine yI G G G G G ?_)
   refine yE G G G G (pv_mul_w G G) ?_
   repeat (first|refine yI G G G G G ?_|refine yE G G G G (yA G G G) ?_|refine W_load G G G G (yF G) (zG G (zS G)) ?_|refine yE G G G G (pv_add G G (by omega) (by omega)) ?_|refine W_idx G G G (by omega) G G G ?_|refine W_at G G (by assumption) G G G G G ?_)
   refine yE G G G G (pv_conv_int G) ?_
   refine yE G G G G (pv_add_w G G) ?_
   rw [mul_byte _ _ hlt hbt,← hsn]
   repeat (first|refine yJ ?_|refine yI G G G G G ?_)
   repeat (first|refine zB ?_|refine zE ?_|refine zK G G G ?_|refine L_add G G (by omega) (by omega) G G ?_)
   exact ⟨hk8,_,(by repeat (first|exact zT _|refine zO G ?_)),_,rfl,yK.out⟩
  ·obtain rfl:k=8:=by omega
   repeat (first|refine zF ?_|refine yD ?_|refine zB ?_|refine zE ?_|refine zK G G G ?_|refine zZ G G G G G ?_|refine L_ld G G G G G ?_|refine zI G ?_|refine L_add G G (by omega) (by omega) G G ?_|refine L_st G G G (c':=[_,_,_]) G G G G ?_)
   refine yH G G (pv_conv_int G) ?_
   repeat (first|refine zE ?_|refine zK G G G ?_|refine zM ?_)
   exact ⟨[_],D+pt b (.cells [.slice a bs.length c,.int .i64 ((at':Int)+8),.bool false].toArray 194 (0,0)),_,⟨rfl,trivial⟩,⟨_,by rw [ev']; rfl,by rw [es]; exact ⟨bs,a,c,at'+8,rfl,hrd,h9,h4,by simp [RS.wf],fun _=>rfl⟩,rfl⟩,yK.out⟩
theorem refBlob_spec (w0:World) (D:Hp) (b:Nat) (s:RS) (h:Hp) (hr:RdrR w0 D b s h) :
  Spec Tryz.prog w0 71 [.pointer (some ⟨b,0,none⟩)] (D+h) (fun r h'=>∃ h2 h3,OwL w0 0 (blobV s) r h3∧RdrR w0 D b (blobS s) h2∧D+h2+h3=h'):=by
 have hint:=refInt_spec w0 D b s h hr
 have hwf:(intS s).wf:=takeS_wf _ _
 have bad:∀ {h2:Hp},((intS s).bad=true∨intV s<0∨((intS s).left.length:Int)<intV s)→RdrR w0 D b (intS s) h2→∃ h3:Hp,blobV s=[]∧blobS s=⟨[],true⟩:=fun hh _ =>
  ⟨0,by unfold blobV takeV; rw [takeOk_no hh]; rfl,by unfold blobS takeS; rw [takeOk_no hh]; rfl⟩
 refine zN Tryz.func71 G Tryz.ntmps71 Tryz.results71 G fun fr=>?_
 repeat (first|refine zF ?_|refine zB ?_|refine zE ?_|refine zK G G G ?_)
 refine zY G G (zQ G G G) hint ?_
 rintro _ _ ⟨h2,rfl,hr2,rfl⟩
 have hlft:=refLeft_spec w0 D b (intS s) h2 hr2
 have hbad:=fun hh=>bad hh hr2
 have hlen:=hr2.len
 obtain ⟨bs,a,c,at',rfl,hrd,h3,h4,h5,h6⟩:=id hr2
 clear bad
 have fin:(blobV s=[]∧blobS s=⟨[],true⟩)→RdrR w0 D b (blobS s) (pt b (.cells [.slice a bs.length c,.int .i64 (at':Int),.bool true].toArray 194 (0,0)))∧OwL w0 0 (blobV s) (.slice none 0 0) 0:=fun hh=>by
  rw [hh.1,hh.2]; exact ⟨⟨bs,a,c,at',rfl,hrd,h3,h4,fun _=>rfl,fun h=>by cases h⟩,OwL.nil _ _⟩
 cases hb:(intS s).bad
 rotate_left
 ·obtain ⟨_,e1⟩:=hbad (.inl hb)
  obtain ⟨f1,f2⟩:=fin e1
  repeat (first|refine zF ?_|refine zB ?_|refine zE ?_|refine zK G G G ?_|refine zZ G G G G G ?_|refine L_ld G G G G G ?_|refine L_skip G G ?_|refine zM ?_|refine zJ G ?_|refine L_st G G G (c':=[_,_,_]) G G G G ?_)
  exact ⟨[_],D+pt b (.cells [.slice a bs.length c,.int .i64 (at':Int),.bool true].toArray 194 (0,0))+0,_,⟨rfl,trivial⟩,⟨_,0,f2,f1,rfl⟩,by simp only [yB]; exact yK.out⟩
 rw [hb] at hlft
 repeat (first|refine zF ?_|refine zB ?_|refine zE ?_|refine zK G G G ?_|refine zZ G G G G G ?_|refine L_ld G G G G G ?_)
 refine yG G G (pv_lss G G) (fun n1=>?_) (fun n1=>?_)
 ·obtain ⟨_,e1⟩:=hbad (.inr (.inl n1))
  obtain ⟨f1,f2⟩:=fin e1
  repeat (first|refine zF ?_|refine zB ?_|refine zE ?_|refine zK G G G ?_|refine zZ G G G G G ?_|refine L_skip G G ?_|refine zM ?_|refine zJ G ?_|refine L_st G G G (c':=[_,_,_]) G G G G ?_)
  exact ⟨[_],D+pt b (.cells [.slice a bs.length c,.int .i64 (at':Int),.bool true].toArray 194 (0,0))+0,_,⟨rfl,trivial⟩,⟨_,0,f2,f1,rfl⟩,by simp only [yB]; exact yK.out⟩
 repeat (refine zK G G G ?_)
 refine zY G G (zQ G G G) hlft ?_
 rintro _ _ ⟨rfl,rfl⟩
 skip
 refine yG G G (pv_gtr G G) (fun n2=>?_) (fun n2=>?_)
 ·obtain ⟨_,e1⟩:=hbad (.inr (.inr n2))
  obtain ⟨f1,f2⟩:=fin e1
  repeat (first|refine zF ?_|refine zB ?_|refine zE ?_|refine zK G G G ?_|refine zZ G G G G G ?_|refine zM ?_|refine zJ G ?_|refine L_st G G G (c':=[_,_,_]) G G G G ?_)
  exact ⟨[_],D+pt b (.cells [.slice a bs.length c,.int .i64 (at':Int),.bool true].toArray 194 (0,0))+0,_,⟨rfl,trivial⟩,⟨_,0,f2,f1,rfl⟩,by simp only [yB]; exact yK.out⟩
 clear fin hbad
 obtain ⟨n,hn⟩:=Int.eq_ofNat_of_zero_le (show 0≤intV s by omega)
 have hl:=h6 hb
 have hyes:takeOk (intS s) (intV s)=true:=takeOk_yes hb (by omega) (by omega)
 have evb:blobV s=(intS s).left.take n:=by unfold blobV takeV; rw [hyes,if_pos G,hn]; rfl
 have esb:blobS s=⟨bs.drop (at'+n),false⟩:=by unfold blobS takeS; rw [hyes,if_pos G,hl,List.drop_drop,hn]; rfl
 have hnl:n≤(intS s).left.length:=by omega
 have hnb:at'+n≤bs.length:=by rw [hl,List.length_drop] at hnl; omega
 rw [hn]
 repeat (first|refine zF ?_|refine zR ?_|refine zB ?_|refine zE ?_|refine zK G G G ?_|refine zP ?_|refine zI G ?_)
 refine hold_count n (fun k g L=>∃ (vo:Value) (h R:Hp),g=[(0,.pointer (some ⟨b,0,none⟩)),(3,.int .i64 n),(4,vo),(5,.int .i64 k)]∧OwL w0 0 ((intS s).left.take k) vo h∧L=D+pt b (.cells [.slice a bs.length c,.int .i64 (at':Int),.bool false].toArray 194 (0,0))+h+fr+R) _
  ⟨.slice none 0 0,0,_,rfl,OwL.nil _ _,by simp only [yB]; exact yK.out⟩ (by repeat (first|exact zT _|refine zO G ?_)) ?_
 rintro k g L hk ⟨vo,h,R,rfl,ho,rfl⟩
 repeat (first|refine zF ?_|refine zB ?_|refine zK G G G ?_)
 refine yG G G (pv_lss G G) (fun n3=>?_) (fun n3=>?_)
 ·have hx:at'+k<bs.length:=by omega
  have hxl:k<(intS s).left.length:=by omega
  have htk:=List.take_succ_eq_append_getElem hxl
  have hge:(intS s).left[k]=bs[at'+k]:=by simp only [hl,List.getElem_drop]
  rw [hge] at htk
  have hlt:((intS s).left.take k).length≤1000000000000:=by rw [List.length_take]; omega
  obtain ⟨b2,o2,rfl,e,rfl,hat⟩:=hrd.at hx
  have hat':At w0 D b2 (o2+(at'+k)*1) [.int .u8 (bs[at'+k].val:Int)]:=hat
  clear hat
  repeat (first|refine zF ?_|refine zR ?_|refine zE ?_|refine zP ?_|refine zJ G ?_)
  refine yC [13,14] [0,1,2,3,4,5,6,7,8,9,10,11,12,13,14,15] (by kernel_rfl) G (by kernel_rfl) (by kernel_rfl) ?_
  repeat (first|refine yI G G G G G ?_|refine yE G G G G (yA G G G) ?_|refine W_load G G G G (yF G) (zG G (zS G)) ?_|refine yE G G G G (pv_add G G (by omega) (by omega)) ?_|refine W_idx G G G (by omega) G G G ?_|refine W_at G G (by assumption) G G G G G ?_)
  refine W_eff G G G G (ev_buildSlice (vs:=[_]) (cells:=[_]) G G G G) (Kept.all _) ?_
  rintro _ _ ⟨b5,rfl,rfl⟩
  refine ⟨by repeat (first|exact trivial|exact zG G (zS G)|exact zG G ((hat' 0 _ rfl).frame)|refine ⟨?_,?_⟩),?_⟩
  refine W_eff G G G G (ev_appendL (X:=0) (ns:=[bs[at'+k]]) (h:=h) G G ho (rd_one G) (All2.one G) G G G G G (by simp only [List.length_singleton]; omega)) (Kept.all _) ?_
  rintro vo' _ ⟨h',ho',rfl⟩
  rw [← htk] at ho'
  refine ⟨by repeat (first|exact trivial|exact zG G (zS G)|exact zG G ((hat' 0 _ rfl).frame)|refine ⟨?_,?_⟩),?_⟩
  repeat (first|refine yJ ?_|refine yI G G G G G ?_)
  repeat (first|refine zB ?_|refine zE ?_|refine zK G G G ?_|refine L_add G G (by omega) (by omega) G G ?_)
  exact ⟨by omega,_,(by repeat (first|exact zT _|refine zO G ?_)),vo',h',_,rfl,ho',yK.out⟩
 ·obtain rfl:k=n:=by omega
  repeat (first|refine zF ?_|refine yD ?_|refine zB ?_|refine zE ?_|refine zK G G G ?_|refine zZ G G G G G ?_|refine L_ld G G G G G ?_|refine zM ?_|refine zI G ?_|refine L_add G G (by omega) (by omega) G G ?_|refine L_st G G G (c':=[_,_,_]) G G G G ?_)
  exact ⟨[_],D+pt b (.cells [.slice a bs.length c,.int .i64 ((at':Int)+(k:Int)),.bool false].toArray 194 (0,0))+h,_,⟨rfl,trivial⟩,⟨_,h,by rw [evb]; exact ho,by rw [esb]; exact ⟨bs,a,c,at'+k,rfl,hrd,hnb,h4,by simp [RS.wf],fun _=>rfl⟩,rfl⟩,yK.out⟩
theorem setBad {w0:World} {D:Hp} {b:Nat} {s:RS} {h:Hp} (hr:RdrR w0 D b s h):∃ u v w,h=pt b (.cells [u,v,w].toArray 194 (0,0))∧w.oneCell'=true∧RdrR w0 D b ⟨[],true⟩ (pt b (.cells [u,v,.bool true].toArray 194 (0,0)))∧w=.bool s.bad:=by
 obtain ⟨bs,a,c,at',rfl,hrd,h3,h4,h5,h6⟩:=hr
 exact ⟨_,_,_,rfl,rfl,⟨bs,a,c,at',rfl,hrd,h3,h4,fun _=>rfl,fun h=>by cases h⟩,rfl⟩
theorem refEnd_spec (w0:World) (D:Hp) (b:Nat) (s:RS) (h:Hp) (hr:RdrR w0 D b s h) :
  Spec Tryz.prog w0 72 [.pointer (some ⟨b,0,none⟩)] (D+h) (fun r h'=>r=.int .i64 (endV s)∧D+h=h'):=by
 have hlft:=refLeft_spec w0 D b s h hr
 obtain ⟨u,v,w,rfl,hw,hr2,rfl⟩:=setBad hr
 refine zN Tryz.func72 G Tryz.ntmps72 Tryz.results72 G fun fr=>?_
 repeat (first|refine zF ?_|refine zB ?_|refine zE ?_|refine zK G G G ?_|refine zZ G G G G G ?_|refine L_ld G G G G G ?_)
 cases hb:s.bad
 ·rw [hb] at hlft
  repeat (first|refine zF ?_|refine zB ?_|refine zK G G G ?_|refine zP ?_|refine zI G ?_)
  refine zY G G (zQ G G G) hlft ?_
  rintro _ _ ⟨rfl,rfl⟩
  skip
  refine yG G G (pv_gtr G G) (fun h1=>?_) (fun h1=>?_)
  ·repeat (first|refine zF ?_|refine zB ?_|refine zE ?_|refine zK G G G ?_|refine zM ?_|refine zJ G ?_)
   exact ⟨[_],D+_,_,⟨rfl,trivial⟩,⟨by unfold endV; rw [hb,if_neg (by simp),if_neg (by intro e; rw [e] at h1; simp at h1)]; rfl,rfl⟩,yK.out⟩
  ·repeat (first|refine zF ?_|refine zB ?_|refine zE ?_|refine zK G G G ?_|refine zP ?_|refine zM ?_|refine zI G ?_)
   exact ⟨[_],D+_,_,⟨rfl,trivial⟩,⟨by unfold endV; rw [hb,if_neg (by simp),if_pos (List.eq_nil_of_length_eq_zero (by omega))]; rfl,rfl⟩,yK.out⟩
 ·repeat (first|refine zF ?_|refine zB ?_|refine zE ?_|refine zK G G G ?_|refine zM ?_|refine zJ G ?_)
  exact ⟨[_],D+_,_,⟨rfl,trivial⟩,⟨by unfold endV; rw [hb]; rfl,rfl⟩,yK.out⟩
def cntOk (least:Nat) (s:RS):Prop:=0≤intV s∧intV s≤((intS s).left.length / least:Nat)
instance (least:Nat) (s:RS):Decidable (cntOk least s):=by unfold cntOk; infer_instance
def cntV (least:Nat) (s:RS):Nat:=if cntOk least s then (intV s).toNat else 0
def cntS (least:Nat) (s:RS):RS:=if cntOk least s then intS s else ⟨[],true⟩
theorem refCount_spec (w0:World) (D:Hp) (b:Nat) (s:RS) (h:Hp) (hr:RdrR w0 D b s h) (least:Nat) (h1:1≤least∧least≤1000) :
  Spec Tryz.prog w0 70 [.pointer (some ⟨b,0,none⟩),.int .i64 (least:Int)] (D+h) (fun r h'=>∃ h2,r=.int .i64 (cntV least s:Nat)∧RdrR w0 D b (cntS least s) h2∧D+h2=h'):=by
 have hint:=refInt_spec w0 D b s h hr
 refine zN Tryz.func70 G Tryz.ntmps70 Tryz.results70 G fun fr=>?_
 repeat (first|refine zF ?_|refine zB ?_|refine zE ?_|refine zK G G G ?_)
 refine zY G G (zQ G G G) hint ?_
 rintro _ _ ⟨h2,rfl,hr2,rfl⟩
 have hlft:=refLeft_spec w0 D b (intS s) h2 hr2
 have hlen:=hr2.len
 obtain ⟨u,v,w,rfl,hw,hr3,rfl⟩:=setBad hr2
 have no:¬ cntOk least s→cntV least s=0∧cntS least s=⟨[],true⟩:=fun hh=>⟨by unfold cntV; rw [if_neg hh],by unfold cntS; rw [if_neg hh]⟩
 repeat (first|refine zF ?_|refine zB ?_|refine zE ?_|refine zK G G G ?_)
 refine yG G G (pv_lss G G) (fun n1=>?_) (fun n1=>?_)
 ·obtain ⟨e1,e2⟩:=no (fun hh=>by have:=hh.1; omega)
  rw [e1,e2]
  repeat (first|refine zF ?_|refine zB ?_|refine zE ?_|refine zK G G G ?_|refine zZ G G G G G ?_|refine L_skip G G ?_|refine zM ?_|refine zJ G ?_|refine L_st G G G (c':=[_,_,_]) G G G G ?_)
  exact ⟨[_],D+_,_,⟨rfl,trivial⟩,⟨_,rfl,hr3,rfl⟩,yK.out⟩
 repeat (refine zK G G G ?_)
 refine zY G G (zQ G G G) hlft ?_
 rintro _ _ ⟨rfl,rfl⟩
 repeat (refine zK G G G ?_)
 refine yH G G (pv_quo_nn G G (by omega) (by omega) (by omega)) ?_
 refine yG G G (pv_gtr G G) (fun n2=>?_) (fun n2=>?_)
 ·obtain ⟨e1,e2⟩:=no (fun hh=>by have:=hh.2; rw [Int.natCast_ediv] at this; omega)
  rw [e1,e2]
  repeat (first|refine zF ?_|refine zB ?_|refine zE ?_|refine zK G G G ?_|refine zZ G G G G G ?_|refine zM ?_|refine zJ G ?_|refine L_st G G G (c':=[_,_,_]) G G G G ?_)
  exact ⟨[_],D+_,_,⟨rfl,trivial⟩,⟨_,rfl,hr3,rfl⟩,yK.out⟩
 ·have yes:cntOk least s:=⟨by omega,by rw [Int.natCast_ediv]; omega⟩
  have e1:((cntV least s:Nat):Int)=intV s:=by unfold cntV; rw [if_pos yes]; omega
  have e2:cntS least s=intS s:=by unfold cntS; rw [if_pos yes]
  rw [e1,e2]
  repeat (first|refine zF ?_|refine zB ?_|refine zE ?_|refine zK G G G ?_|refine zP ?_|refine zM ?_|refine zI G ?_)
  exact ⟨[_],D+_,_,⟨rfl,trivial⟩,⟨_,rfl,hr2,rfl⟩,yK.out⟩
theorem refInts_spec (w0:World) (D:Hp) (b:Nat) (s:RS) (h:Hp) (hr:RdrR w0 D b s h) :
  Spec Tryz.prog w0 69 [.pointer (some ⟨b,0,none⟩)] (D+h) (fun r h'=>∃ h2 h3,OwL w0 0 (intsV s) r h3∧RdrR w0 D b (intsS s) h2∧D+h2+h3=h'):=by
 have hint:=refInt_spec w0 D b s h hr
 have no:∀ {g:Prop},intsOk s=false→intsV s=[]∧intsS s=⟨[],true⟩:=fun hh=>⟨by unfold intsV; rw [hh]; rfl,by unfold intsS; rw [hh]; rfl⟩
 refine zN Tryz.func69 G Tryz.ntmps69 Tryz.results69 G fun fr=>?_
 repeat (first|refine zF ?_|refine zB ?_|refine zE ?_|refine zK G G G ?_)
 refine zY G G (zQ G G G) hint ?_
 rintro _ _ ⟨h2,rfl,hr2,rfl⟩
 have hlft:=refLeft_spec w0 D b (intS s) h2 hr2
 have hlen:=hr2.len
 obtain ⟨u,v,w,rfl,hw,hr3,rfl⟩:=setBad hr2
 cases hb:(intS s).bad
 rotate_left
 ·obtain ⟨e1,e2⟩:=no (g:=True) (by unfold intsOk; rw [hb]; rfl)
  rw [e1,e2]
  repeat (first|refine zF ?_|refine zB ?_|refine zE ?_|refine zK G G G ?_|refine zZ G G G G G ?_|refine L_ld G G G G G ?_|refine L_skip G G ?_|refine zM ?_|refine zJ G ?_|refine L_st G G G (c':=[_,_,_]) G G G G ?_)
  exact ⟨[_],D+pt b (.cells [u,v,.bool true].toArray 194 (0,0))+0,_,⟨rfl,trivial⟩,⟨_,0,OwL.nil _ _,hr3,rfl⟩,by simp only [yB]; exact yK.out⟩
 rw [hb] at hlft hr2
 repeat (first|refine zF ?_|refine zB ?_|refine zE ?_|refine zK G G G ?_|refine zZ G G G G G ?_|refine L_ld G G G G G ?_)
 refine yG G G (pv_lss G G) (fun n1=>?_) (fun n1=>?_)
 ·obtain ⟨e1,e2⟩:=no (g:=True) (by unfold intsOk; rw [decide_eq_false (by omega),Bool.and_false])
  rw [e1,e2]
  repeat (first|refine zF ?_|refine zB ?_|refine zE ?_|refine zK G G G ?_|refine zZ G G G G G ?_|refine L_skip G G ?_|refine zM ?_|refine zJ G ?_|refine L_st G G G (c':=[_,_,_]) G G G G ?_)
  exact ⟨[_],D+pt b (.cells [u,v,.bool true].toArray 194 (0,0))+0,_,⟨rfl,trivial⟩,⟨_,0,OwL.nil _ _,hr3,rfl⟩,by simp only [yB]; exact yK.out⟩
 repeat (refine zK G G G ?_)
 refine zY G G (zQ G G G) hlft ?_
 rintro _ _ ⟨rfl,rfl⟩
 skip
 refine yH G G (pv_quo_nn G G (by omega) (by omega) (by omega)) ?_
 refine yG G G (pv_gtr G G) (fun n2=>?_) (fun n2=>?_)
 ·obtain ⟨e1,e2⟩:=no (g:=True) (by unfold intsOk; rw [decide_eq_false (by omega),Bool.and_false])
  rw [e1,e2]
  repeat (first|refine zF ?_|refine zB ?_|refine zE ?_|refine zK G G G ?_|refine zZ G G G G G ?_|refine zM ?_|refine zJ G ?_|refine L_st G G G (c':=[_,_,_]) G G G G ?_)
  exact ⟨[_],D+pt b (.cells [u,v,.bool true].toArray 194 (0,0))+0,_,⟨rfl,trivial⟩,⟨_,0,OwL.nil _ _,hr3,rfl⟩,by simp only [yB]; exact yK.out⟩
 have yes:intsOk s=true:=by unfold intsOk; rw [hb,decide_eq_true ⟨by omega,by omega⟩]; rfl
 have e1:intsV s=(many (fun s=>(intV s,intS s)) (intV s).toNat (intS s)).1:=by unfold intsV; rw [if_pos yes]
 have e2:intsS s=(many (fun s=>(intV s,intS s)) (intV s).toNat (intS s)).2:=by unfold intsS; rw [if_pos yes]
 rw [e1,e2]
 obtain ⟨n,hn⟩:=Int.eq_ofNat_of_zero_le (show 0≤intV s by omega)
 rw [hn,Int.toNat_natCast]
 have hnl:n≤1000000000000:=by omega
 clear no yes e1 e2 hlft hr3
 generalize intS s=s1 at *
 repeat (first|refine zF ?_|refine zR ?_|refine zB ?_|refine zE ?_|refine zK G G G ?_|refine zP ?_|refine zI G ?_)
 refine hold_count n (fun k g L=>∃ (vo:Value) (h4 h5 R:Hp),g=[(0,.pointer (some ⟨b,0,none⟩)),(3,.int .i64 n),(4,vo),(5,.int .i64 k)]∧OwL w0 0 (many (fun s=>(intV s,intS s)) k s1).1 vo h5∧RdrR w0 D b (many (fun s=>(intV s,intS s)) k s1).2 h4∧L=D+h4+h5+fr+R) _
  ⟨.slice none 0 0,_,0,_,rfl,OwL.nil _ _,hr2,by simp only [yB]; exact yK.out⟩ (by repeat (first|exact zT _|refine zO G ?_)) ?_
 rintro k g L hk ⟨vo,h4,h5,R,rfl,ho,hr4,rfl⟩
 have hml:=many_length (fun s:RS=>(intV s,intS s)) k s1
 repeat (first|refine zF ?_|refine zB ?_|refine zK G G G ?_)
 refine yG G G (pv_lss G G) (fun n3=>?_) (fun n3=>?_)
 ·repeat (first|refine zF ?_|refine zR ?_|refine zB ?_|refine zE ?_|refine zK G G G ?_|refine zP ?_|refine zJ G ?_)
  refine zY G G (zQ G G G) (refInt_spec w0 D b _ h4 hr4) ?_
  rintro _ _ ⟨h6,rfl,hr6,rfl⟩
  repeat (refine L_bs (vs:=[_]) (cells:=[_]) G G G G G G (fun _=>?_))
  refine L_eff G G (ev_appendL (X:=0) (ns:=[intV (many (fun s=>(intV s,intS s)) k s1).2]) (h:=h5) G G ho (rd_one G) (All2.one G) G G G G G (by rw [hml]; simp only [List.length_singleton]; omega)) ?_
  rintro vo' _ ⟨h',ho',rfl⟩
  repeat (first|refine zB ?_|refine zE ?_|refine zK G G G ?_|refine L_add G G (by omega) (by omega) G G ?_)
  exact ⟨by omega,_,(by repeat (first|exact zT _|refine zO G ?_)),vo',h6,h',_,rfl,ho',hr6,yK.out⟩
 ·obtain rfl:k=n:=by omega
  repeat (first|refine zF ?_|refine yD ?_|refine zB ?_|refine zE ?_|refine zK G G G ?_|refine zM ?_|refine zI G ?_)
  exact ⟨[_],D+h4+h5,_,⟨rfl,trivial⟩,⟨h4,h5,ho,hr4,rfl⟩,yK.out⟩
end Sl
end Go.Proofs.YtpkealohodeifaaGreat
namespace Go.Proofs.YtpkealohodeifaaGreat
open Go Go.RowKit
namespace Sl
set_option maxHeartbeats 16000000
set_option maxRecDepth 4000
set_option synthInstance.maxHeartbeats 400000
set_option synthInstance.maxSize 100000
attribute [local irreducible] Hold HoldL HoldW
theorem listV_cnt {α:Type} (one:St2→α × St2) (least:Nat) (s:RS) (f:Bool):listV one least (s,f)=manyS one (cntV least s) (cntS least s,f):=by
 by_cases h:cntOk least s
 ·have e1:cntV least s=(intV s).toNat:=if_pos h
  have e2:cntS least s=intS s:=if_pos h
  rw [e1,e2]
  exact if_pos h
 ·have e1:cntV least s=0:=if_neg h
  have e2:cntS least s=⟨[],true⟩:=if_neg h
  rw [e1,e2]
  exact if_neg h
theorem cntV_le (least:Nat) (s:RS) (hl:s.left.length≤1000000000000):cntV least s≤1000000000000:=by
 have h1:=intS_len s
 unfold cntV
 split
 ·rename_i h
  have:=h.2
  have h2:=Nat.div_le_self (intS s).left.length least
  omega
 ·omega
theorem listV_bad {α:Type} (one:St2→α × St2) (least:Nat) (f:Bool):listV one least (⟨[],true⟩,f)=([],(⟨[],true⟩,f)):=by
 rw [listV_cnt]; rfl
def oneLkR (s:St2):Lk × St2:=((oneLk s).1,(if oddF (intV (intS (intS (intS s.1))))=true then ⟨[],true⟩ else intS (intS (intS (intS s.1))),s.2))
theorem oneLkR_1 (s:St2):(oneLkR s).1=⟨intV s.1,intV (intS s.1),intV (intS (intS s.1)),decide (intV (intS (intS (intS s.1)))=1)⟩:=rfl
theorem oneLkR_nx {s:St2} (h:oddF (intV (intS (intS (intS s.1))))=false):(oneLkR s).2.1=intS (intS (intS (intS s.1))):=by
 unfold oneLkR; simp only [h]; rfl
theorem oneLkR_nb {s:St2} (h:oddF (intV (intS (intS (intS s.1))))=true):(oneLkR s).2.1=⟨[],true⟩:=by
 unfold oneLkR; simp only [h]; rfl
theorem oneLkR_bad {s:St2} (h:s.1=⟨[],true⟩):(oneLkR s).2.1=⟨[],true⟩:=by
 unfold oneLkR; rw [h]; rfl
theorem oneLkR_ok {s:St2} (h:oddF (intV (intS (intS (intS s.1))))=false) (h2:s.2=false):(oneLkR s).2=(oneLk s).2:=by
 obtain ⟨s,f⟩:=s
 simp only at h h2
 subst h2
 show ((if oddF (intV (intS (intS (intS s))))=true then (⟨[],true⟩:RS) else intS (intS (intS (intS s)))),false)=(intS (intS (intS (intS s))),false||oddF (intV (intS (intS (intS s)))))
 rw [h]; rfl
theorem manyLk :∀ k s,(manyS oneLk k (s,false)).2.2=false→manyS oneLkR k (s,false)=manyS oneLk k (s,false)
 | 0,_,_=>rfl
 | k+1,s,h=>by
  have h1:((manyS oneLk k (s,false)).2.2||oddF (intV (intS (intS (intS (manyS oneLk k (s,false)).2.1)))))=false:=h
  rw [Bool.or_eq_false_iff] at h1
  have h2:=manyLk k s h1.1
  show ((manyS oneLkR k (s,false)).1++[(oneLkR (manyS oneLkR k (s,false)).2).1],(oneLkR (manyS oneLkR k (s,false)).2).2)=((manyS oneLk k (s,false)).1++[(oneLk (manyS oneLk k (s,false)).2).1],(oneLk (manyS oneLk k (s,false)).2).2)
  rw [h2]
  have h3:(oneLkR (manyS oneLk k (s,false)).2).2=(oneLk (manyS oneLk k (s,false)).2).2:=oneLkR_ok h1.2 h1.1
  rw [h3]; rfl
theorem manyLkBad :∀ k s,(manyS oneLk k (s,false)).2.2=true→(manyS oneLkR k (s,false)).2.1=⟨[],true⟩
 | 0,_,h=>by cases h
 | k+1,s,h=>by
  show (oneLkR (manyS oneLkR k (s,false)).2).2.1=_
  have h1:((manyS oneLk k (s,false)).2.2||oddF (intV (intS (intS (intS (manyS oneLk k (s,false)).2.1)))))=true:=h
  cases h2:(manyS oneLk k (s,false)).2.2
  ·rw [manyLk k s h2]
   rw [h2,Bool.false_or] at h1
   exact oneLkR_nb h1
  ·exact oneLkR_bad (manyLkBad k s h2)
def gLR (bs:List Bt):List Lk × St2:=listV oneLkR 32 ((gK bs).2.1,false)
def gPR (bs:List Bt):List Prp × St2:=listV onePrp 56 ((gLR bs).2.1,false)
def gOR (bs:List Bt):List Outp × St2:=listV oneOut 32 (intsS (gPR bs).2.1,false)
def gXR (bs:List Bt):List Ses × St2:=listV oneSes 32 ((gOR bs).2.1,false)
def getSR (bs:List Bt):Shd:=⟨intV ⟨bs,false⟩,intV (intS ⟨bs,false⟩),intV (intS (intS ⟨bs,false⟩)),(gB bs).1,(gK bs).1,(gLR bs).1,(gPR bs).1,intsV (gPR bs).2.1,(gOR bs).1,(gXR bs).1⟩
def getFR (bs:List Bt):Shd × Int:=if endV (gXR bs).2.1≠0 then (Shd.zero,4) else (getSR bs,0)
theorem onePrp_odd (s:St2):(onePrp s).2.2=s.2:=by show (listV oneWr 16 _).2.2=_; rw [listV_odd (fun s=>rfl)]
theorem getFR_eq (bs:List Bt):getFR bs=getF bs:=by
 have oP:(gP bs).2.2=(gL bs).2.2:=listV_odd (f:=onePrp) onePrp_odd 56 _
 have oO:(gO bs).2.2=(gL bs).2.2:=by rw [← oP]; exact listV_odd (f:=oneOut) (fun s=>rfl) 32 _
 have oX:(gX bs).2.2=(gL bs).2.2:=by rw [← oO]; exact listV_odd (f:=oneSes) (fun s=>rfl) 32 _
 cases h:(gL bs).2.2
 ·have e1:gLR bs=gL bs:=by
   unfold gL at h
   unfold gLR gL
   rw [listV_cnt] at h ⊢
   rw [listV_cnt]
   exact manyLk _ _ h
  have e2:((gL bs).2.1,false)=(gL bs).2:=by rw [← h]
  have e3:gPR bs=gP bs:=by unfold gPR gP; rw [e1,e2]
  have e4:gOR bs=gO bs:=by
   unfold gOR gO; rw [e3]
   rw [show (gP bs).2.2=false from oP.trans h]
  have e5:gXR bs=gX bs:=by
   unfold gXR gX; rw [e4]
   rw [show ((gO bs).2.1,false)=(gO bs).2 by rw [← h,← oO]]
  unfold getFR getF getSR getS
  rw [e5,e4,e3,e1,oX,h]
  simp only [Bool.false_eq_true,false_or]
 ·have e1:(gLR bs).2.1=⟨[],true⟩:=by
   unfold gL at h
   unfold gLR
   rw [listV_cnt] at h ⊢
   exact manyLkBad _ _ h
  have e2:(gPR bs).2.1=⟨[],true⟩:=by unfold gPR; rw [e1,listV_bad]
  have e3:(gOR bs).2.1=⟨[],true⟩:=by unfold gOR; rw [e2,show intsS ⟨[],true⟩=⟨[],true⟩ from rfl,listV_bad]
  have e4:(gXR bs).2.1=⟨[],true⟩:=by unfold gXR; rw [e3,listV_bad]
  unfold getFR getF
  rw [e4,if_pos (by decide),if_pos (.inl (oX.trans h))]
theorem onePrp_cnt {s:St2} (h:s.2=false):onePrp s=(⟨intV s.1,intV (intS s.1),intV (intS (intS s.1)),intV (intS (intS (intS s.1))),intV (intS (intS (intS (intS s.1)))),intsV (s5 s.1),(manyS oneWr (cntV 16 (intsS (s5 s.1))) (cntS 16 (intsS (s5 s.1)),false)).1⟩,(manyS oneWr (cntV 16 (intsS (s5 s.1))) (cntS 16 (intsS (s5 s.1)),false)).2):=by
 obtain ⟨s,f⟩:=s
 simp only at h
 subst h
 unfold onePrp
 rw [listV_cnt]
theorem refBlks_spec (w0:World) (D:Hp) (b:Nat) (s:RS) (h:Hp) (hr:RdrR w0 D b s h) :
  Spec Tryz.prog w0 65 [.pointer (some ⟨b,0,none⟩)] (D+h) (fun r h'=>∃ E h2 h3,OwL w0 E (listV oneBlk 16 (s,false)).1 r h3∧RdrR w0 D b (listV oneBlk 16 (s,false)).2.1 h2∧D+E+h2+h3=h'):=by
 have hcl:=cntV_le 16 s hr.len
 have hcn:=refCount_spec w0 D b s h hr 16 (by decide)
 rw [listV_cnt]
 generalize cntV 16 s=n at *
 generalize cntS 16 s=s1 at *
 refine zN Tryz.func65 G Tryz.ntmps65 Tryz.results65 G fun fr=>?_
 repeat (first|refine zF ?_|refine zB ?_|refine zE ?_|refine zK G G G ?_)
 refine zY G G (zQ G G G) hcn ?_
 rintro _ _ ⟨h2,rfl,hr2,rfl⟩
 repeat (first|refine zR ?_|refine zE ?_|refine zK G G G ?_)
 refine hold_count n (fun k g L=>∃ (vo:Value) (E h4 h5 R:Hp),g=[(0,.pointer (some ⟨b,0,none⟩)),(3,vo),(4,.int .i64 ((n:Int) - (k:Int)))]∧OwL w0 E (manyS oneBlk k (s1,false)).1 vo h5∧RdrR w0 D b (manyS oneBlk k (s1,false)).2.1 h4∧L=D+E+h4+h5+fr+R) _
  ⟨.slice none 0 0,0,h2,0,_,by rw [show (n:Int) - ((0:Nat):Int)=n by omega],OwL.nil _ _,hr2,by simp only [yB]; exact yK.out⟩ (by repeat (first|exact zT _|refine zO G ?_)) ?_
 rintro k g L hk ⟨vo,E,h4,h5,R,rfl,ho,hr4,rfl⟩
 have hml:=manyS_length oneBlk k (s1,false)
 repeat (first|refine zF ?_|refine zB ?_|refine zK G G G ?_)
 refine yG G G (pv_gtr G G) (fun n1=>?_) (fun n1=>?_)
 ·repeat (first|refine zF ?_|refine zR ?_|refine zB ?_|refine zE ?_|refine zK G G G ?_|refine zP ?_|refine zJ G ?_|refine L_build (vs:=[]) (cells:=[_,_]) G G G G ?_|refine L_stA G (vs:=[_,_]) G G G G (c':=[_,_]) G G ?_|refine L_alloc (c:=[_,_]) G G G (fun _=>?_))
  refine zY G G (zQ G G G) (refInt_spec w0 D b (manyS oneBlk k (s1,false)).2.1 h4 hr4) ?_
  rintro _ _ ⟨i0,rfl,r0,rfl⟩
  repeat (first|refine zF ?_|refine zB ?_|refine zE ?_|refine zK G G G ?_|refine zZ G G G G G ?_|refine L_st G G G (c':=[_,_]) G G G G ?_)
  refine zY G G (zQ G G G) (refBlob_spec w0 D b (intS (manyS oneBlk k (s1,false)).2.1) i0 r0) ?_
  rintro vd _ ⟨h7,h8,hod,hr7,rfl⟩
  obtain ⟨ad,cd,rfl⟩:=hod.shape
  repeat (first|refine zB ?_|refine zE ?_|refine zK G G G ?_|refine zZ G G G G G ?_|refine L_st G G G (c':=[_,_]) G G G G ?_|refine L_ldA G (vs:=[_,_]) G G G G G ?_|refine L_bs (vs:=[_]) (cells:=[_,_]) G G G G G G (fun _=>?_))
  have hnew:Rep.rd w0 (E+h8) (oneBlk (manyS oneBlk k (s1,false)).2).1 [.int .i64 (intV (manyS oneBlk k (s1,false)).2.1),.slice ad (blobV (intS (manyS oneBlk k (s1,false)).2.1)).length cd]:=⟨ad,cd,rfl,hod.rd0.mono (show E+h8=0+h8+E by rw [hzero_add]; ac_rfl)⟩
  refine L_eff G G (ev_appendL (X:=E+h8) (ns:=[(oneBlk (manyS oneBlk k (s1,false)).2).1]) (h:=h5) G G (ho.mono G) (rd_one G) (All2.one hnew) G G G G G (by rw [hml]; simp only [List.length_singleton]; omega)) ?_
  rintro vo' _ ⟨h9,ho',rfl⟩
  repeat (first|refine zB ?_|refine zE ?_|refine zK G G G ?_|refine L_sub G G (by omega) (by omega) G G ?_)
  rw [show (n:Int) - (k:Int) - 1=(n:Int) - ((k+1:Nat):Int) by omega]
  exact ⟨by omega,_,(by repeat (first|exact zT _|refine zO G ?_)),vo',E+h8,h7,h9,_,rfl,ho',hr7,yK.out⟩
 ·obtain rfl:k=n:=by omega
  repeat (first|refine zF ?_|refine yD ?_|refine zB ?_|refine zE ?_|refine zK G G G ?_|refine zM ?_|refine zI G ?_)
  exact ⟨[_],D+E+h4+h5,_,⟨rfl,trivial⟩,⟨E,h4,h5,ho,hr4,rfl⟩,yK.out⟩
theorem refKpts_spec (w0:World) (D:Hp) (b:Nat) (s:RS) (h:Hp) (hr:RdrR w0 D b s h) :
  Spec Tryz.prog w0 66 [.pointer (some ⟨b,0,none⟩)] (D+h) (fun r h'=>∃ E h2 h3,OwL w0 E (listV oneKpt 24 (s,false)).1 r h3∧RdrR w0 D b (listV oneKpt 24 (s,false)).2.1 h2∧D+E+h2+h3=h'):=by
 have hcl:=cntV_le 24 s hr.len
 have hcn:=refCount_spec w0 D b s h hr 24 (by decide)
 rw [listV_cnt]
 generalize cntV 24 s=n at *
 generalize cntS 24 s=s1 at *
 refine zN Tryz.func66 G Tryz.ntmps66 Tryz.results66 G fun fr=>?_
 repeat (first|refine zF ?_|refine zB ?_|refine zE ?_|refine zK G G G ?_)
 refine zY G G (zQ G G G) hcn ?_
 rintro _ _ ⟨h2,rfl,hr2,rfl⟩
 repeat (first|refine zR ?_|refine zE ?_|refine zK G G G ?_)
 refine hold_count n (fun k g L=>∃ (vo:Value) (E h4 h5 R:Hp),g=[(0,.pointer (some ⟨b,0,none⟩)),(3,vo),(4,.int .i64 ((n:Int) - (k:Int)))]∧OwL w0 E (manyS oneKpt k (s1,false)).1 vo h5∧RdrR w0 D b (manyS oneKpt k (s1,false)).2.1 h4∧L=D+E+h4+h5+fr+R) _
  ⟨.slice none 0 0,0,h2,0,_,by rw [show (n:Int) - ((0:Nat):Int)=n by omega],OwL.nil _ _,hr2,by simp only [yB]; exact yK.out⟩ (by repeat (first|exact zT _|refine zO G ?_)) ?_
 rintro k g L hk ⟨vo,E,h4,h5,R,rfl,ho,hr4,rfl⟩
 have hml:=manyS_length oneKpt k (s1,false)
 repeat (first|refine zF ?_|refine zB ?_|refine zK G G G ?_)
 refine yG G G (pv_gtr G G) (fun n1=>?_) (fun n1=>?_)
 ·repeat (first|refine zF ?_|refine zR ?_|refine zB ?_|refine zE ?_|refine zK G G G ?_|refine zP ?_|refine zJ G ?_|refine L_build (vs:=[]) (cells:=[_,_,_]) G G G G ?_|refine L_stA G (vs:=[_,_,_]) G G G G (c':=[_,_,_]) G G ?_|refine L_alloc (c:=[_,_,_]) G G G (fun _=>?_))
  refine zY G G (zQ G G G) (refInt_spec w0 D b (manyS oneKpt k (s1,false)).2.1 h4 hr4) ?_
  rintro _ _ ⟨i0,rfl,r0,rfl⟩
  repeat (first|refine zF ?_|refine zB ?_|refine zE ?_|refine zK G G G ?_|refine zZ G G G G G ?_|refine L_st G G G (c':=[_,_,_]) G G G G ?_)
  refine zY G G (zQ G G G) (refInt_spec w0 D b (intS (manyS oneKpt k (s1,false)).2.1) i0 r0) ?_
  rintro _ _ ⟨i1,rfl,r1,rfl⟩
  repeat (first|refine zF ?_|refine zB ?_|refine zE ?_|refine zK G G G ?_|refine zZ G G G G G ?_|refine L_st G G G (c':=[_,_,_]) G G G G ?_)
  refine zY G G (zQ G G G) (refBlob_spec w0 D b (intS (intS (manyS oneKpt k (s1,false)).2.1)) i1 r1) ?_
  rintro vd _ ⟨h7,h8,hod,hr7,rfl⟩
  obtain ⟨ad,cd,rfl⟩:=hod.shape
  repeat (first|refine zB ?_|refine zE ?_|refine zK G G G ?_|refine zZ G G G G G ?_|refine L_st G G G (c':=[_,_,_]) G G G G ?_|refine L_ldA G (vs:=[_,_,_]) G G G G G ?_|refine L_bs (vs:=[_]) (cells:=[_,_,_]) G G G G G G (fun _=>?_))
  have hnew:Rep.rd w0 (E+h8) (oneKpt (manyS oneKpt k (s1,false)).2).1 [.int .i64 (intV (manyS oneKpt k (s1,false)).2.1),.int .i64 (intV (intS (manyS oneKpt k (s1,false)).2.1)),.slice ad (blobV (intS (intS (manyS oneKpt k (s1,false)).2.1))).length cd]:=⟨ad,cd,rfl,hod.rd0.mono (show E+h8=0+h8+E by rw [hzero_add]; ac_rfl)⟩
  refine L_eff G G (ev_appendL (X:=E+h8) (ns:=[(oneKpt (manyS oneKpt k (s1,false)).2).1]) (h:=h5) G G (ho.mono G) (rd_one G) (All2.one hnew) G G G G G (by rw [hml]; simp only [List.length_singleton]; omega)) ?_
  rintro vo' _ ⟨h9,ho',rfl⟩
  repeat (first|refine zB ?_|refine zE ?_|refine zK G G G ?_|refine L_sub G G (by omega) (by omega) G G ?_)
  rw [show (n:Int) - (k:Int) - 1=(n:Int) - ((k+1:Nat):Int) by omega]
  exact ⟨by omega,_,(by repeat (first|exact zT _|refine zO G ?_)),vo',E+h8,h7,h9,_,rfl,ho',hr7,yK.out⟩
 ·obtain rfl:k=n:=by omega
  repeat (first|refine zF ?_|refine yD ?_|refine zB ?_|refine zE ?_|refine zK G G G ?_|refine zM ?_|refine zI G ?_)
  exact ⟨[_],D+E+h4+h5,_,⟨rfl,trivial⟩,⟨E,h4,h5,ho,hr4,rfl⟩,yK.out⟩
theorem refLks_spec (w0:World) (D:Hp) (b:Nat) (s:RS) (h:Hp) (hr:RdrR w0 D b s h) :
  Spec Tryz.prog w0 67 [.pointer (some ⟨b,0,none⟩)] (D+h) (fun r h'=>∃ E h2 h3,OwL w0 E (listV oneLkR 32 (s,false)).1 r h3∧RdrR w0 D b (listV oneLkR 32 (s,false)).2.1 h2∧D+E+h2+h3=h'):=by
 have hcl:=cntV_le 32 s hr.len
 have hcn:=refCount_spec w0 D b s h hr 32 (by decide)
 rw [listV_cnt]
 generalize cntV 32 s=n at *
 generalize cntS 32 s=s1 at *
 refine zN Tryz.func67 G Tryz.ntmps67 Tryz.results67 G fun fr=>?_
 repeat (first|refine zF ?_|refine zB ?_|refine zE ?_|refine zK G G G ?_)
 refine zY G G (zQ G G G) hcn ?_
 rintro _ _ ⟨h2,rfl,hr2,rfl⟩
 repeat (first|refine zR ?_|refine zE ?_|refine zK G G G ?_)
 refine hold_count n (fun k g L=>∃ (vo:Value) (E h4 h5 R:Hp),g=[(0,.pointer (some ⟨b,0,none⟩)),(3,vo),(4,.int .i64 ((n:Int) - (k:Int)))]∧OwL w0 E (manyS oneLkR k (s1,false)).1 vo h5∧RdrR w0 D b (manyS oneLkR k (s1,false)).2.1 h4∧L=D+E+h4+h5+fr+R) _
  ⟨.slice none 0 0,0,h2,0,_,by rw [show (n:Int) - ((0:Nat):Int)=n by omega],OwL.nil _ _,hr2,by simp only [yB]; exact yK.out⟩ (by repeat (first|exact zT _|refine zO G ?_)) ?_
 rintro k g L hk ⟨vo,E,h4,h5,R,rfl,ho,hr4,rfl⟩
 have hml:=manyS_length oneLkR k (s1,false)
 repeat (first|refine zF ?_|refine zB ?_|refine zK G G G ?_)
 refine yG G G (pv_gtr G G) (fun n1=>?_) (fun n1=>?_)
 ·repeat (first|refine zF ?_|refine zR ?_|refine zB ?_|refine zE ?_|refine zK G G G ?_|refine zP ?_|refine zJ G ?_|refine L_build (vs:=[]) (cells:=[_,_,_,_]) G G G G ?_|refine L_stA G (vs:=[_,_,_,_]) G G G G (c':=[_,_,_,_]) G G ?_|refine L_alloc (c:=[_,_,_,_]) G G G (fun _=>?_))
  refine zY G G (zQ G G G) (refInt_spec w0 D b (manyS oneLkR k (s1,false)).2.1 h4 hr4) ?_
  rintro _ _ ⟨i0,rfl,r0,rfl⟩
  repeat (first|refine zF ?_|refine zB ?_|refine zE ?_|refine zK G G G ?_|refine zZ G G G G G ?_|refine L_st G G G (c':=[_,_,_,_]) G G G G ?_)
  refine zY G G (zQ G G G) (refInt_spec w0 D b (intS (manyS oneLkR k (s1,false)).2.1) i0 r0) ?_
  rintro _ _ ⟨i1,rfl,r1,rfl⟩
  repeat (first|refine zF ?_|refine zB ?_|refine zE ?_|refine zK G G G ?_|refine zZ G G G G G ?_|refine L_st G G G (c':=[_,_,_,_]) G G G G ?_)
  refine zY G G (zQ G G G) (refInt_spec w0 D b (intS (intS (manyS oneLkR k (s1,false)).2.1)) i1 r1) ?_
  rintro _ _ ⟨i2,rfl,r2,rfl⟩
  repeat (first|refine zF ?_|refine zB ?_|refine zE ?_|refine zK G G G ?_|refine zZ G G G G G ?_|refine L_st G G G (c':=[_,_,_,_]) G G G G ?_)
  refine zY G G (zQ G G G) (refInt_spec w0 D b (intS (intS (intS (manyS oneLkR k (s1,false)).2.1))) i2 r2) ?_
  rintro _ _ ⟨i3,rfl,r3,rfl⟩
  repeat (first|refine zF ?_|refine zB ?_|refine zE ?_|refine zK G G G ?_)
  have nx:oddF (intV (intS (intS (intS (manyS oneLkR k (s1,false)).2.1))))=false→(oneLkR (manyS oneLkR k (s1,false)).2).2.1=(intS (intS (intS (intS (manyS oneLkR k (s1,false)).2.1)))):=fun h=>oneLkR_nx h
  have nb:oddF (intV (intS (intS (intS (manyS oneLkR k (s1,false)).2.1))))=true→(oneLkR (manyS oneLkR k (s1,false)).2).2.1=⟨[],true⟩:=fun h=>oneLkR_nb h
  refine yG G G (pv_neq G G) (fun n2=>?_) (fun n2=>?_)
  ·repeat (refine zK G G G ?_)
   refine yG G G (pv_neq G G) (fun n3=>?_) (fun n3=>?_)
   ·have hod:=nb (decide_eq_true ⟨n2,n3⟩)
    obtain ⟨u,v,w,rfl,hw,hrb,rfl⟩:=setBad r3
    repeat (first|refine zF ?_|refine zB ?_|refine zE ?_|refine zK G G G ?_|refine zZ G G G G G ?_|refine zJ G ?_|refine L_st G G G (c':=[_,_,_]) G G G G ?_)
    refine L_no G G (pv_eql G G) n3 ?_
    repeat (first|refine zB ?_|refine zE ?_|refine zK G G G ?_|refine zZ G G G G G ?_|refine L_st G G G (c':=[_,_,_,_]) G G G G ?_|refine L_ldA G (vs:=[_,_,_,_]) G G G G G ?_|refine L_bs (vs:=[_]) (cells:=[_,_,_,_]) G G G G G G (fun _=>?_))
    have hnew:Rep.rd w0 E (oneLkR (manyS oneLkR k (s1,false)).2).1 [.int .i64 (intV (manyS oneLkR k (s1,false)).2.1),.int .i64 (intV (intS (manyS oneLkR k (s1,false)).2.1)),.int .i64 (intV (intS (intS (manyS oneLkR k (s1,false)).2.1))),.bool false]:=by
     show _=cellsL _
     rw [oneLkR_1,show decide (intV (intS (intS (intS (manyS oneLkR k (s1,false)).2.1)))=1)=false by exact decide_eq_false n3]
     rfl
    refine L_eff G G (ev_appendL (X:=E) (ns:=[(oneLkR (manyS oneLkR k (s1,false)).2).1]) (h:=h5) G G ho (rd_one G) (All2.one hnew) G G G G G (by rw [hml]; simp only [List.length_singleton]; omega)) ?_
    rintro vo' _ ⟨h9,ho',rfl⟩
    repeat (first|refine zB ?_|refine zE ?_|refine zK G G G ?_|refine L_sub G G (by omega) (by omega) G G ?_)
    rw [show (n:Int) - (k:Int) - 1=(n:Int) - ((k+1:Nat):Int) by omega]
    exact ⟨by omega,_,(by repeat (first|exact zT _|refine zO G ?_)),vo',E,_,h9,_,rfl,ho',by show RdrR w0 D b (oneLkR (manyS oneLkR k (s1,false)).2).2.1 _; rw [hod]; exact hrb,yK.out⟩
   ·have hod:=nx (decide_eq_false (fun h=>n3 h.2))
    repeat (first|refine zF ?_|refine zB ?_|refine zE ?_|refine zK G G G ?_|refine zP ?_|refine zI G ?_)
    refine L_yes G G (pv_eql G G) (by omega) ?_
    repeat (first|refine zB ?_|refine zE ?_|refine zK G G G ?_|refine zZ G G G G G ?_|refine L_st G G G (c':=[_,_,_,_]) G G G G ?_|refine L_ldA G (vs:=[_,_,_,_]) G G G G G ?_|refine L_bs (vs:=[_]) (cells:=[_,_,_,_]) G G G G G G (fun _=>?_))
    have hnew:Rep.rd w0 E (oneLkR (manyS oneLkR k (s1,false)).2).1 [.int .i64 (intV (manyS oneLkR k (s1,false)).2.1),.int .i64 (intV (intS (manyS oneLkR k (s1,false)).2.1)),.int .i64 (intV (intS (intS (manyS oneLkR k (s1,false)).2.1))),.bool true]:=by
     show _=cellsL _
     rw [oneLkR_1,show decide (intV (intS (intS (intS (manyS oneLkR k (s1,false)).2.1)))=1)=true by exact decide_eq_true (by omega)]
     rfl
    refine L_eff G G (ev_appendL (X:=E) (ns:=[(oneLkR (manyS oneLkR k (s1,false)).2).1]) (h:=h5) G G ho (rd_one G) (All2.one hnew) G G G G G (by rw [hml]; simp only [List.length_singleton]; omega)) ?_
    rintro vo' _ ⟨h9,ho',rfl⟩
    repeat (first|refine zB ?_|refine zE ?_|refine zK G G G ?_|refine L_sub G G (by omega) (by omega) G G ?_)
    rw [show (n:Int) - (k:Int) - 1=(n:Int) - ((k+1:Nat):Int) by omega]
    exact ⟨by omega,_,(by repeat (first|exact zT _|refine zO G ?_)),vo',E,i3,h9,_,rfl,ho',by show RdrR w0 D b (oneLkR (manyS oneLkR k (s1,false)).2).2.1 _; rw [hod]; exact r3,yK.out⟩
  ·have hod:=nx (decide_eq_false (fun h=>n2 h.1))
   repeat (first|refine zF ?_|refine zB ?_|refine zE ?_|refine zK G G G ?_|refine L_skip G G ?_|refine zP ?_|refine zI G ?_)
   refine L_no G G (pv_eql G G) (by omega) ?_
   repeat (first|refine zB ?_|refine zE ?_|refine zK G G G ?_|refine zZ G G G G G ?_|refine L_st G G G (c':=[_,_,_,_]) G G G G ?_|refine L_ldA G (vs:=[_,_,_,_]) G G G G G ?_|refine L_bs (vs:=[_]) (cells:=[_,_,_,_]) G G G G G G (fun _=>?_))
   have hnew:Rep.rd w0 E (oneLkR (manyS oneLkR k (s1,false)).2).1 [.int .i64 (intV (manyS oneLkR k (s1,false)).2.1),.int .i64 (intV (intS (manyS oneLkR k (s1,false)).2.1)),.int .i64 (intV (intS (intS (manyS oneLkR k (s1,false)).2.1))),.bool false]:=by
    show _=cellsL _
    rw [oneLkR_1,show decide (intV (intS (intS (intS (manyS oneLkR k (s1,false)).2.1)))=1)=false by exact decide_eq_false (by omega)]
    rfl
   refine L_eff G G (ev_appendL (X:=E) (ns:=[(oneLkR (manyS oneLkR k (s1,false)).2).1]) (h:=h5) G G ho (rd_one G) (All2.one hnew) G G G G G (by rw [hml]; simp only [List.length_singleton]; omega)) ?_
   rintro vo' _ ⟨h9,ho',rfl⟩
   repeat (first|refine zB ?_|refine zE ?_|refine zK G G G ?_|refine L_sub G G (by omega) (by omega) G G ?_)
   rw [show (n:Int) - (k:Int) - 1=(n:Int) - ((k+1:Nat):Int) by omega]
   exact ⟨by omega,_,(by repeat (first|exact zT _|refine zO G ?_)),vo',E,i3,h9,_,rfl,ho',by show RdrR w0 D b (oneLkR (manyS oneLkR k (s1,false)).2).2.1 _; rw [hod]; exact r3,yK.out⟩
 ·obtain rfl:k=n:=by omega
  repeat (first|refine zF ?_|refine yD ?_|refine zB ?_|refine zE ?_|refine zK G G G ?_|refine zM ?_|refine zI G ?_)
  exact ⟨[_],D+E+h4+h5,_,⟨rfl,trivial⟩,⟨E,h4,h5,ho,hr4,rfl⟩,yK.out⟩
theorem refPrps_spec (w0:World) (D:Hp) (b:Nat) (s:RS) (h:Hp) (hr:RdrR w0 D b s h) :
  Spec Tryz.prog w0 68 [.pointer (some ⟨b,0,none⟩)] (D+h) (fun r h'=>∃ E h2 h3,OwL w0 E (listV onePrp 56 (s,false)).1 r h3∧RdrR w0 D b (listV onePrp 56 (s,false)).2.1 h2∧D+E+h2+h3=h'):=by
 have hcl:=cntV_le 56 s hr.len
 have hcn:=refCount_spec w0 D b s h hr 56 (by decide)
 rw [listV_cnt]
 generalize cntV 56 s=n at *
 generalize cntS 56 s=s1 at *
 refine zN Tryz.func68 G Tryz.ntmps68 Tryz.results68 G fun fr=>?_
 repeat (first|refine zF ?_|refine zB ?_|refine zE ?_|refine zK G G G ?_)
 refine zY G G (zQ G G G) hcn ?_
 rintro _ _ ⟨h2,rfl,hr2,rfl⟩
 repeat (first|refine zR ?_|refine zE ?_|refine zK G G G ?_)
 refine hold_count n (fun k g L=>∃ (vo:Value) (E h4 h5 R:Hp),g=[(0,.pointer (some ⟨b,0,none⟩)),(3,vo),(4,.int .i64 ((n:Int) - (k:Int)))]∧OwL w0 E (manyS onePrp k (s1,false)).1 vo h5∧RdrR w0 D b (manyS onePrp k (s1,false)).2.1 h4∧L=D+E+h4+h5+fr+R) _
  ⟨.slice none 0 0,0,h2,0,_,by rw [show (n:Int) - ((0:Nat):Int)=n by omega],OwL.nil _ _,hr2,by simp only [yB]; exact yK.out⟩ (by repeat (first|exact zT _|refine zO G ?_)) ?_
 rintro k g L hk ⟨vo,E,h4,h5,R,rfl,ho,hr4,rfl⟩
 have hml:=manyS_length onePrp k (s1,false)
 repeat (first|refine zF ?_|refine zB ?_|refine zK G G G ?_)
 refine yG G G (pv_gtr G G) (fun n1=>?_) (fun n1=>?_)
 ·have hodd:(manyS onePrp k (s1,false)).2.2=false:=manyS_odd onePrp_odd k (s1,false)
  repeat (first|refine zF ?_|refine zR ?_|refine zB ?_|refine zE ?_|refine zK G G G ?_|refine zP ?_|refine zJ G ?_|refine L_build (vs:=[]) (cells:=[_,_,_,_,_,_,_]) G G G G ?_|refine L_stA G (vs:=[_,_,_,_,_,_,_]) G G G G (c':=[_,_,_,_,_,_,_]) G G ?_|refine L_alloc (c:=[_,_,_,_,_,_,_]) G G G (fun _=>?_))
  rename_i b5
  refine zY G G (zQ G G G) (refInt_spec w0 D b (manyS onePrp k (s1,false)).2.1 h4 hr4) ?_
  rintro _ _ ⟨i0,rfl,r0,rfl⟩
  repeat (first|refine zF ?_|refine zB ?_|refine zE ?_|refine zK G G G ?_|refine zZ G G G G G ?_|refine L_st G G G (c':=[_,_,_,_,_,_,_]) G G G G ?_)
  refine zY G G (zQ G G G) (refInt_spec w0 D b (intS (manyS onePrp k (s1,false)).2.1) i0 r0) ?_
  rintro _ _ ⟨i1,rfl,r1,rfl⟩
  repeat (first|refine zF ?_|refine zB ?_|refine zE ?_|refine zK G G G ?_|refine zZ G G G G G ?_|refine L_st G G G (c':=[_,_,_,_,_,_,_]) G G G G ?_)
  refine zY G G (zQ G G G) (refInt_spec w0 D b (intS (intS (manyS onePrp k (s1,false)).2.1)) i1 r1) ?_
  rintro _ _ ⟨i2,rfl,r2,rfl⟩
  repeat (first|refine zF ?_|refine zB ?_|refine zE ?_|refine zK G G G ?_|refine zZ G G G G G ?_|refine L_st G G G (c':=[_,_,_,_,_,_,_]) G G G G ?_)
  refine zY G G (zQ G G G) (refInt_spec w0 D b (intS (intS (intS (manyS onePrp k (s1,false)).2.1))) i2 r2) ?_
  rintro _ _ ⟨i3,rfl,r3,rfl⟩
  repeat (first|refine zF ?_|refine zB ?_|refine zE ?_|refine zK G G G ?_|refine zZ G G G G G ?_|refine L_st G G G (c':=[_,_,_,_,_,_,_]) G G G G ?_)
  refine zY G G (zQ G G G) (refInt_spec w0 D b (intS (intS (intS (intS (manyS onePrp k (s1,false)).2.1)))) i3 r3) ?_
  rintro _ _ ⟨i4,rfl,r4,rfl⟩
  repeat (first|refine zF ?_|refine zB ?_|refine zE ?_|refine zK G G G ?_|refine zZ G G G G G ?_|refine L_st G G G (c':=[_,_,_,_,_,_,_]) G G G G ?_)
  refine zY G G (zQ G G G) (refInts_spec w0 D b (intS (intS (intS (intS (intS (manyS onePrp k (s1,false)).2.1))))) i4 r4) ?_
  rintro vp _ ⟨hp1,hp2,hop,hrp,rfl⟩
  obtain ⟨ap,cp,rfl⟩:=hop.shape
  repeat (first|refine zF ?_|refine zB ?_|refine zE ?_|refine zK G G G ?_|refine zZ G G G G G ?_|refine L_st G G G (c':=[_,_,_,_,_,_,_]) G G G G ?_)
  have hcl2:=cntV_le 16 _ hrp.len
  have hcn2:=refCount_spec w0 D b _ hp1 hrp 16 (by decide)
  have hone:onePrp (manyS onePrp k (s1,false)).2=(⟨intV (manyS onePrp k (s1,false)).2.1,intV (intS (manyS onePrp k (s1,false)).2.1),intV (intS (intS (manyS onePrp k (s1,false)).2.1)),intV (intS (intS (intS (manyS onePrp k (s1,false)).2.1))),intV (intS (intS (intS (intS (manyS onePrp k (s1,false)).2.1)))),intsV (intS (intS (intS (intS (intS (manyS onePrp k (s1,false)).2.1))))),(manyS oneWr (cntV 16 (intsS (intS (intS (intS (intS (intS (manyS onePrp k (s1,false)).2.1))))))) (cntS 16 (intsS (intS (intS (intS (intS (intS (manyS onePrp k (s1,false)).2.1)))))),false)).1⟩,(manyS oneWr (cntV 16 (intsS (intS (intS (intS (intS (intS (manyS onePrp k (s1,false)).2.1))))))) (cntS 16 (intsS (intS (intS (intS (intS (intS (manyS onePrp k (s1,false)).2.1)))))),false)).2):=onePrp_cnt hodd
  generalize cntV 16 (intsS (intS (intS (intS (intS (intS (manyS onePrp k (s1,false)).2.1))))))=n2 at *
  generalize cntS 16 (intsS (intS (intS (intS (intS (intS (manyS onePrp k (s1,false)).2.1))))))=s2 at *
  refine zY G G (zQ G G G) hcn2 ?_
  rintro _ _ ⟨hp3,rfl,hrp3,rfl⟩
  repeat (first|refine zR ?_|refine zE ?_|refine zK G G G ?_)
  refine hold_count n2 (fun j g L=>∃ (aw:Option Addr) (cw:Nat) (E2 h6 h7 R:Hp),g=[(0,.pointer (some ⟨b,0,none⟩)),(3,vo),(4,.int .i64 ((n:Int) - (k:Int))),(5,.pointer (some ⟨b5,0,none⟩)),(6,.int .i64 ((n2:Int) - (j:Int)))]∧OwL w0 E2 (manyS oneWr j (s2,false)).1 (.slice aw (manyS oneWr j (s2,false)).1.length cw) h7∧RdrR w0 D b (manyS oneWr j (s2,false)).2.1 h6 ∧
    L=D+E+E2+h6+h5+h7+hp2+pt b5 (.cells [.int .i64 (intV (manyS onePrp k (s1,false)).2.1),.int .i64 (intV (intS (manyS onePrp k (s1,false)).2.1)),.int .i64 (intV (intS (intS (manyS onePrp k (s1,false)).2.1))),.int .i64 (intV (intS (intS (intS (manyS onePrp k (s1,false)).2.1)))),.int .i64 (intV (intS (intS (intS (intS (manyS onePrp k (s1,false)).2.1))))),.slice ap (intsV (intS (intS (intS (intS (intS (manyS onePrp k (s1,false)).2.1)))))).length cp,.slice aw (manyS oneWr j (s2,false)).1.length cw].toArray 57 (0,0))+fr+R) _
   ⟨none,0,0,hp3,0,_,by rw [show (n2:Int) - ((0:Nat):Int)=n2 by omega],OwL.nil _ _,hrp3,by
    show _=D+E+0+hp3+h5+0+hp2+pt b5 (.cells [.int .i64 (intV (manyS onePrp k (s1,false)).2.1),.int .i64 (intV (intS (manyS onePrp k (s1,false)).2.1)),.int .i64 (intV (intS (intS (manyS onePrp k (s1,false)).2.1))),.int .i64 (intV (intS (intS (intS (manyS onePrp k (s1,false)).2.1)))),.int .i64 (intV (intS (intS (intS (intS (manyS onePrp k (s1,false)).2.1))))),.slice ap (intsV (intS (intS (intS (intS (intS (manyS onePrp k (s1,false)).2.1)))))).length cp,.slice none 0 0].toArray 57 (0,0))+fr+_
    simp only [yB]; exact yK.out⟩ (by repeat (first|exact zT _|refine zO G ?_)) ?_
  rintro j g L hj ⟨aw,cw,E2,h6,h7,R,rfl,how,hr6,rfl⟩
  have hml2:=manyS_length oneWr j (s2,false)
  repeat (first|refine zF ?_|refine zB ?_|refine zK G G G ?_)
  refine yG G G (pv_gtr G G) (fun n3=>?_) (fun n3=>?_)
  ·repeat (first|refine zF ?_|refine zR ?_|refine zB ?_|refine zE ?_|refine zK G G G ?_|refine zP ?_|refine zJ G ?_|refine L_build (vs:=[]) (cells:=[_,_]) G G G G ?_|refine L_stA G (vs:=[_,_]) G G G G (c':=[_,_]) G G ?_|refine L_alloc (c:=[_,_]) G G G (fun _=>?_))
   refine zY G G (zQ G G G) (refInt_spec w0 D b _ h6 hr6) ?_
   rintro _ _ ⟨h8,rfl,hr8,rfl⟩
   repeat (first|refine zF ?_|refine zB ?_|refine zE ?_|refine zK G G G ?_|refine zZ G G G G G ?_|refine L_st G G G (c':=[_,_]) G G G G ?_)
   refine zY G G (zQ G G G) (refBlob_spec w0 D b _ h8 hr8) ?_
   rintro vd _ ⟨h9,h10,hod,hr9,rfl⟩
   obtain ⟨ad,cd,rfl⟩:=hod.shape
   repeat (first|refine zB ?_|refine zE ?_|refine zZ G G G G G ?_|refine L_ld G G G G G ?_|refine L_st G G G (c':=[_,_]) G G G G ?_|refine L_ldA G (vs:=[_,_]) G G G G G ?_|refine L_bs (vs:=[_]) (cells:=[_,_]) G G G G G G (fun _=>?_))
   have hnew:Rep.rd w0 (E2+h10) (oneWr (manyS oneWr j (s2,false)).2).1 [.int .i64 (intV (manyS oneWr j (s2,false)).2.1),.slice ad (blobV (intS (manyS oneWr j (s2,false)).2.1)).length cd]:=⟨ad,cd,rfl,hod.rd0.mono (show E2+h10=0+h10+E2 by rw [hzero_add]; ac_rfl)⟩
   refine L_eff G G (ev_appendL (X:=E2+h10) (ns:=[(oneWr (manyS oneWr j (s2,false)).2).1]) (h:=h7) G G (how.mono G) (rd_one G) (All2.one hnew) G G G G G (by rw [hml2]; simp only [List.length_singleton]; omega)) ?_
   rintro vo' _ ⟨h11,ho',rfl⟩
   have ho2:OwL w0 (E2+h10) (manyS oneWr (j+1) (s2,false)).1 vo' h11:=ho'
   obtain ⟨aw2,cw2,rfl⟩:=ho2.shape
   repeat (first|refine zB ?_|refine zE ?_|refine zK G G G ?_|refine zZ G G G G G ?_|refine L_sub G G (by omega) (by omega) G G ?_|refine L_st G G G (c':=[_,_,_,_,_,_,_]) G G G G ?_)
   rw [show (n2:Int) - (j:Int) - 1=(n2:Int) - ((j+1:Nat):Int) by omega]
   exact ⟨by omega,_,(by repeat (first|exact zT _|refine zO G ?_)),aw2,cw2,E2+h10,h9,h11,_,rfl,ho2,hr9,yK.out⟩
  ·obtain rfl:j=n2:=by omega
   repeat (first|refine yD ?_|refine zB ?_|refine zE ?_|refine zK G G G ?_|refine zI G ?_|refine L_ldA G (vs:=[_,_,_,_,_,_,_]) G G G G G ?_|refine L_bs (vs:=[_]) (cells:=[_,_,_,_,_,_,_]) G G G G G G (fun _=>?_))
   have hnew:Rep.rd w0 (E+(E2+h7+hp2)) (onePrp (manyS onePrp k (s1,false)).2).1 [.int .i64 (intV (manyS onePrp k (s1,false)).2.1),.int .i64 (intV (intS (manyS onePrp k (s1,false)).2.1)),.int .i64 (intV (intS (intS (manyS onePrp k (s1,false)).2.1))),.int .i64 (intV (intS (intS (intS (manyS onePrp k (s1,false)).2.1)))),.int .i64 (intV (intS (intS (intS (intS (manyS onePrp k (s1,false)).2.1))))),.slice ap (intsV (intS (intS (intS (intS (intS (manyS onePrp k (s1,false)).2.1)))))).length cp,.slice aw (manyS oneWr j (s2,false)).1.length cw]:=by
    rw [hone]
    exact ⟨ap,cp,aw,cw,rfl,hop.rd0.mono (show _=0+hp2+(E+(E2+h7)) by rw [hzero_add]; ac_rfl),how.rd0.mono (show _=E2+h7+(E+hp2) by ac_rfl)⟩
   refine L_eff G G (ev_appendL (X:=E+(E2+h7+hp2)) (ns:=[(onePrp (manyS onePrp k (s1,false)).2).1]) (h:=h5) G G (ho.mono G) (rd_one G) (All2.one hnew) G G G G G (by rw [hml]; simp only [List.length_singleton]; omega)) ?_
   rintro vo' _ ⟨h11,ho',rfl⟩
   repeat (first|refine zB ?_|refine zE ?_|refine zK G G G ?_|refine L_sub G G (by omega) (by omega) G G ?_)
   rw [show (n:Int) - (k:Int) - 1=(n:Int) - ((k+1:Nat):Int) by omega]
   exact ⟨by omega,_,(by repeat (first|exact zT _|refine zO G ?_)),vo',E+(E2+h7+hp2),h6,h11,_,rfl,ho',by show RdrR w0 D b (onePrp (manyS onePrp k (s1,false)).2).2.1 _; rw [hone]; exact hr6,yK.out⟩
 ·obtain rfl:k=n:=by omega
  repeat (first|refine zF ?_|refine yD ?_|refine zB ?_|refine zE ?_|refine zK G G G ?_|refine zM ?_|refine zI G ?_)
  exact ⟨[_],D+E+h4+h5,_,⟨rfl,trivial⟩,⟨E,h4,h5,ho,hr4,rfl⟩,yK.out⟩
end Sl
end Go.Proofs.YtpkealohodeifaaGreat
namespace Go.Proofs.YtpkealohodeifaaGreat
open Go Go.RowKit
namespace Sl
set_option maxHeartbeats 16000000
set_option maxRecDepth 4000
set_option synthInstance.maxHeartbeats 400000
set_option synthInstance.maxSize 100000
attribute [local irreducible] Hold HoldL HoldW
theorem refGet_spec (w0:World) (X:Hp) (v:Value) (bs:List Bt) (hv:RdL w0 X v bs) (hl:bs.length≤1000000000000) :
  Spec Tryz.prog w0 13 [v] X (fun r h'=>∃ e D,r=.tuple #[.agg e.toArray,.int .i64 (getF bs).2]∧RdShd w0 D (getF bs).1 e∧X+D=h'):=by
 rw [← getFR_eq]
 have hread:=refRead_spec w0 X v bs hv hl
 obtain ⟨a,c,rfl⟩:=hv.shape
 refine zN Tryz.func13 G Tryz.ntmps13 Tryz.results13 G fun fr=>?_
 repeat (first|refine zF ?_|refine zB ?_|refine zE ?_|refine zK G G G ?_|refine L_alloc (c:=[_,_,_,_,_,_,_,_,_,_]) G G G (fun _=>?_))
 rename_i b2
 refine zY G G (zQ G G G) hread ?_
 rintro _ _ ⟨b,D,h0,rfl,hr0,rfl⟩
 repeat (first|refine zF ?_|refine zB ?_|refine zE ?_|refine zK G G G ?_|refine L_build (vs:=[]) (cells:=[_,_,_,_,_,_,_,_,_,_]) G G G G ?_|refine L_stA G (vs:=[_,_,_,_,_,_,_,_,_,_]) G G G G (c':=[_,_,_,_,_,_,_,_,_,_]) G G ?_|refine L_alloc (c:=[_,_,_,_,_,_,_,_,_,_]) G G G (fun _=>?_))
 rename_i b5
 refine zY G G (zQ G G G) (refInt_spec w0 D b ⟨bs,false⟩ h0 hr0) ?_
 rintro _ _ ⟨h1,rfl,hr1,rfl⟩
 repeat (first|refine zF ?_|refine zB ?_|refine zE ?_|refine zK G G G ?_|refine zZ G G G G G ?_|refine L_st G G G (c':=[_,_,_,_,_,_,_,_,_,_]) G G G G ?_)
 refine zY G G (zQ G G G) (refInt_spec w0 D b _ h1 hr1) ?_
 rintro _ _ ⟨h2,rfl,hr2,rfl⟩
 repeat (first|refine zF ?_|refine zB ?_|refine zE ?_|refine zK G G G ?_|refine zZ G G G G G ?_|refine L_st G G G (c':=[_,_,_,_,_,_,_,_,_,_]) G G G G ?_)
 refine zY G G (zQ G G G) (refInt_spec w0 D b _ h2 hr2) ?_
 rintro _ _ ⟨h3,rfl,hr3,rfl⟩
 repeat (first|refine zF ?_|refine zB ?_|refine zE ?_|refine zK G G G ?_|refine zZ G G G G G ?_|refine L_st G G G (c':=[_,_,_,_,_,_,_,_,_,_]) G G G G ?_)
 refine zY G G (zQ G G G) (refBlks_spec w0 D b (g3 bs) h3 hr3) ?_
 rintro vb _ ⟨E1,h4,hb,ob,hr4,rfl⟩
 have ob':OwL w0 E1 (gB bs).1 vb hb:=ob
 obtain ⟨ab,cb,rfl⟩:=ob'.shape
 repeat (first|refine zF ?_|refine zB ?_|refine zE ?_|refine zK G G G ?_|refine zZ G G G G G ?_|refine L_st G G G (c':=[_,_,_,_,_,_,_,_,_,_]) G G G G ?_)
 refine zY G G (zQ G G G) (refKpts_spec w0 D b (gB bs).2.1 h4 hr4) ?_
 rintro vk _ ⟨E2,h5,hk,ok,hr5,rfl⟩
 have ok':OwL w0 E2 (gK bs).1 vk hk:=ok
 obtain ⟨ak,ck,rfl⟩:=ok'.shape
 repeat (first|refine zF ?_|refine zB ?_|refine zE ?_|refine zK G G G ?_|refine zZ G G G G G ?_|refine L_st G G G (c':=[_,_,_,_,_,_,_,_,_,_]) G G G G ?_)
 refine zY G G (zQ G G G) (refLks_spec w0 D b (gK bs).2.1 h5 hr5) ?_
 rintro vl _ ⟨E3,h6,hlk,ol,hr6,rfl⟩
 have ol':OwL w0 E3 (gLR bs).1 vl hlk:=ol
 obtain ⟨al,cl,rfl⟩:=ol'.shape
 repeat (first|refine zF ?_|refine zB ?_|refine zE ?_|refine zK G G G ?_|refine zZ G G G G G ?_|refine L_st G G G (c':=[_,_,_,_,_,_,_,_,_,_]) G G G G ?_)
 refine zY G G (zQ G G G) (refPrps_spec w0 D b (gLR bs).2.1 h6 hr6) ?_
 rintro vp _ ⟨E4,h7,hp,op,hr7,rfl⟩
 have op':OwL w0 E4 (gPR bs).1 vp hp:=op
 obtain ⟨ap,cp,rfl⟩:=op'.shape
 repeat (first|refine zF ?_|refine zB ?_|refine zE ?_|refine zK G G G ?_|refine zZ G G G G G ?_|refine L_st G G G (c':=[_,_,_,_,_,_,_,_,_,_]) G G G G ?_)
 refine zY G G (zQ G G G) (refInts_spec w0 D b (gPR bs).2.1 h7 hr7) ?_
 rintro vd _ ⟨h8,hd,od,hr8,rfl⟩
 obtain ⟨ad,cd,rfl⟩:=od.shape
 clear ob ok ol op
 have hcl:=cntV_le 32 _ hr8.len
 have hcn:=refCount_spec w0 D b _ h8 hr8 32 (by decide)
 have eO:gOR bs=manyS oneOut (cntV 32 (intsS (gPR bs).2.1)) (cntS 32 (intsS (gPR bs).2.1),false):=by unfold gOR; rw [listV_cnt]
 generalize cntV 32 (intsS (gPR bs).2.1)=n at *
 generalize cntS 32 (intsS (gPR bs).2.1)=s1 at *
 repeat (first|refine zF ?_|refine zB ?_|refine zE ?_|refine zK G G G ?_|refine zZ G G G G G ?_|refine L_st G G G (c':=[_,_,_,_,_,_,_,_,_,_]) G G G G ?_)
 refine zY G G (zQ G G G) hcn ?_
 rintro _ _ ⟨h9,rfl,hr9,rfl⟩
 repeat (first|refine zR ?_|refine zE ?_|refine zK G G G ?_)
 refine hold_count n (fun k g L=>∃ (ao:Option Addr) (co:Nat) (E h4 ho' R:Hp),g=[(2,.pointer (some ⟨b2,0,none⟩)),(4,.pointer (some ⟨b,0,none⟩)),(5,.pointer (some ⟨b5,0,none⟩)),(6,.int .i64 ((n:Int) - (k:Int)))]∧OwL w0 E (manyS oneOut k (s1,false)).1 (.slice ao (manyS oneOut k (s1,false)).1.length co) ho'∧RdrR w0 D b (manyS oneOut k (s1,false)).2.1 h4 ∧
   L=X+D+h4+(E1+hb)+(E2+hk)+(E3+hlk)+(E4+hp)+hd+(E+ho')+pt b2 (.cells [.int .i64 0,.int .i64 0,.int .i64 0,.slice none 0 0,.slice none 0 0,.slice none 0 0,.slice none 0 0,.slice none 0 0,.slice none 0 0,.slice none 0 0].toArray 33 (0,0))+pt b5 (.cells [.int .i64 (intV ⟨bs,false⟩),.int .i64 (intV (intS ⟨bs,false⟩)),.int .i64 (intV (intS (intS ⟨bs,false⟩))),.slice ab (gB bs).1.length cb,.slice ak (gK bs).1.length ck,.slice al (gLR bs).1.length cl,.slice ap (gPR bs).1.length cp,.slice ad (intsV (gPR bs).2.1).length cd,.slice ao (manyS oneOut k (s1,false)).1.length co,.slice none 0 0].toArray 33 (0,0))+fr+R) _
  ⟨none,0,0,h9,0,_,by rw [show (n:Int) - ((0:Nat):Int)=n by omega],OwL.nil _ _,hr9,by
   show _=X+D+h9+(E1+hb)+(E2+hk)+(E3+hlk)+(E4+hp)+hd+(0+0)+pt b2 (.cells [.int .i64 0,.int .i64 0,.int .i64 0,.slice none 0 0,.slice none 0 0,.slice none 0 0,.slice none 0 0,.slice none 0 0,.slice none 0 0,.slice none 0 0].toArray 33 (0,0))+pt b5 (.cells [.int .i64 (intV ⟨bs,false⟩),.int .i64 (intV (intS ⟨bs,false⟩)),.int .i64 (intV (intS (intS ⟨bs,false⟩))),.slice ab (gB bs).1.length cb,.slice ak (gK bs).1.length ck,.slice al (gLR bs).1.length cl,.slice ap (gPR bs).1.length cp,.slice ad (intsV (gPR bs).2.1).length cd,.slice none 0 0,.slice none 0 0].toArray 33 (0,0))+fr+_
   simp only [yB]; exact yK.out⟩ (by repeat (first|exact zT _|refine zO G ?_)) ?_
 rintro k g L hk' ⟨ao,co,E,h4,hou,R,rfl,oo,hr4,rfl⟩
 have hml:=manyS_length oneOut k (s1,false)
 repeat (first|refine zF ?_|refine zB ?_|refine zK G G G ?_)
 refine yG G G (pv_gtr G G) (fun n1=>?_) (fun n1=>?_)
 ·repeat (first|refine zF ?_|refine zR ?_|refine zB ?_|refine zE ?_|refine zK G G G ?_|refine zP ?_|refine zJ G ?_|refine L_build (vs:=[]) (cells:=[_,_,_,_]) G G G G ?_|refine L_stA G (vs:=[_,_,_,_]) G G G G (c':=[_,_,_,_]) G G ?_|refine L_alloc (c:=[_,_,_,_]) G G G (fun _=>?_))
  refine zY G G (zQ G G G) (refInt_spec w0 D b _ h4 hr4) ?_
  rintro _ _ ⟨i0,rfl,r0,rfl⟩
  repeat (first|refine zF ?_|refine zB ?_|refine zE ?_|refine zK G G G ?_|refine zZ G G G G G ?_|refine L_st G G G (c':=[_,_,_,_]) G G G G ?_)
  refine zY G G (zQ G G G) (refInt_spec w0 D b _ i0 r0) ?_
  rintro _ _ ⟨i1,rfl,r1,rfl⟩
  repeat (first|refine zF ?_|refine zB ?_|refine zE ?_|refine zK G G G ?_|refine zZ G G G G G ?_|refine L_st G G G (c':=[_,_,_,_]) G G G G ?_)
  refine zY G G (zQ G G G) (refInt_spec w0 D b _ i1 r1) ?_
  rintro _ _ ⟨i2,rfl,r2,rfl⟩
  repeat (first|refine zF ?_|refine zB ?_|refine zE ?_|refine zK G G G ?_|refine zZ G G G G G ?_|refine L_st G G G (c':=[_,_,_,_]) G G G G ?_)
  refine zY G G (zQ G G G) (refBlob_spec w0 D b _ i2 r2) ?_
  rintro vx _ ⟨i3,i4,hox,r3,rfl⟩
  obtain ⟨ax,cx,rfl⟩:=hox.shape
  repeat (first|refine zB ?_|refine zE ?_|refine zZ G G G G G ?_|refine L_ld G G G G G ?_|refine L_st G G G (c':=[_,_,_,_]) G G G G ?_|refine L_ldA G (vs:=[_,_,_,_]) G G G G G ?_|refine L_bs (vs:=[_]) (cells:=[_,_,_,_]) G G G G G G (fun _=>?_))
  have hnew:Rep.rd w0 (E+i4) (oneOut (manyS oneOut k (s1,false)).2).1 [.int .i64 (intV (manyS oneOut k (s1,false)).2.1),.int .i64 (intV (intS (manyS oneOut k (s1,false)).2.1)),.int .i64 (intV (intS (intS (manyS oneOut k (s1,false)).2.1))),.slice ax (blobV (intS (intS (intS (manyS oneOut k (s1,false)).2.1)))).length cx]:=⟨ax,cx,rfl,hox.rd0.mono (show E+i4=0+i4+E by rw [hzero_add]; ac_rfl)⟩
  refine L_eff G G (ev_appendL (X:=E+i4) (ns:=[(oneOut (manyS oneOut k (s1,false)).2).1]) (h:=hou) G G (oo.mono G) (rd_one G) (All2.one hnew) G G G G G (by rw [hml]; simp only [List.length_singleton]; omega)) ?_
  rintro vo' _ ⟨i5,ho',rfl⟩
  have ho2:OwL w0 (E+i4) (manyS oneOut (k+1) (s1,false)).1 vo' i5:=ho'
  obtain ⟨ao2,co2,rfl⟩:=ho2.shape
  repeat (first|refine zB ?_|refine zE ?_|refine zK G G G ?_|refine zZ G G G G G ?_|refine L_sub G G (by omega) (by omega) G G ?_|refine L_st G G G (c':=[_,_,_,_,_,_,_,_,_,_]) G G G G ?_)
  rw [show (n:Int) - (k:Int) - 1=(n:Int) - ((k+1:Nat):Int) by omega]
  exact ⟨by omega,_,(by repeat (first|exact zT _|refine zO G ?_)),ao2,co2,E+i4,i3,i5,_,rfl,ho2,r3,yK.out⟩
 obtain rfl:k=n:=by omega
 rw [← eO] at oo hr4 ⊢
 clear hcn hml n1 eO hr9 hr8
 have hcl2:=cntV_le 32 _ hr4.len
 have hcn2:=refCount_spec w0 D b _ h4 hr4 32 (by decide)
 have eX:gXR bs=manyS oneSes (cntV 32 (gOR bs).2.1) (cntS 32 (gOR bs).2.1,false):=by unfold gXR; rw [listV_cnt]
 generalize cntV 32 (gOR bs).2.1=m at *
 generalize cntS 32 (gOR bs).2.1=s2 at *
 repeat (first|refine zF ?_|refine yD ?_|refine zB ?_|refine zE ?_|refine zK G G G ?_|refine zI G ?_)
 refine zY G G (zQ G G G) hcn2 ?_
 rintro _ _ ⟨h10,rfl,hr10,rfl⟩
 repeat (first|refine zR ?_|refine zE ?_|refine zK G G G ?_)
 refine hold_count m (fun k g L=>∃ (ao2:Option Addr) (co2:Nat) (E' h4 ho' R:Hp),g=[(2,.pointer (some ⟨b2,0,none⟩)),(4,.pointer (some ⟨b,0,none⟩)),(5,.pointer (some ⟨b5,0,none⟩)),(8,.int .i64 ((m:Int) - (k:Int)))]∧OwL w0 E' (manyS oneSes k (s2,false)).1 (.slice ao2 (manyS oneSes k (s2,false)).1.length co2) ho'∧RdrR w0 D b (manyS oneSes k (s2,false)).2.1 h4 ∧
   L=X+D+h4+(E1+hb)+(E2+hk)+(E3+hlk)+(E4+hp)+hd+(E+hou)+(E'+ho')+pt b2 (.cells [.int .i64 0,.int .i64 0,.int .i64 0,.slice none 0 0,.slice none 0 0,.slice none 0 0,.slice none 0 0,.slice none 0 0,.slice none 0 0,.slice none 0 0].toArray 33 (0,0))+pt b5 (.cells [.int .i64 (intV ⟨bs,false⟩),.int .i64 (intV (intS ⟨bs,false⟩)),.int .i64 (intV (intS (intS ⟨bs,false⟩))),.slice ab (gB bs).1.length cb,.slice ak (gK bs).1.length ck,.slice al (gLR bs).1.length cl,.slice ap (gPR bs).1.length cp,.slice ad (intsV (gPR bs).2.1).length cd,.slice ao (gOR bs).1.length co,.slice ao2 (manyS oneSes k (s2,false)).1.length co2].toArray 33 (0,0))+fr+R) _
  ⟨none,0,0,h10,0,_,by rw [show (m:Int) - ((0:Nat):Int)=m by omega],OwL.nil _ _,hr10,by
   show _=X+D+h10+(E1+hb)+(E2+hk)+(E3+hlk)+(E4+hp)+hd+(E+hou)+(0+0)+pt b2 (.cells [.int .i64 0,.int .i64 0,.int .i64 0,.slice none 0 0,.slice none 0 0,.slice none 0 0,.slice none 0 0,.slice none 0 0,.slice none 0 0,.slice none 0 0].toArray 33 (0,0))+pt b5 (.cells [.int .i64 (intV ⟨bs,false⟩),.int .i64 (intV (intS ⟨bs,false⟩)),.int .i64 (intV (intS (intS ⟨bs,false⟩))),.slice ab (gB bs).1.length cb,.slice ak (gK bs).1.length ck,.slice al (gLR bs).1.length cl,.slice ap (gPR bs).1.length cp,.slice ad (intsV (gPR bs).2.1).length cd,.slice ao (gOR bs).1.length co,.slice none 0 0].toArray 33 (0,0))+fr+_
   simp only [yB]; exact yK.out⟩ (by repeat (first|exact zT _|refine zO G ?_)) ?_
 clear R
 rintro k2 g L hk2 ⟨ax2,cx2,E',h11,hse,R,rfl,oo2,hr11,rfl⟩
 have hml:=manyS_length oneSes k2 (s2,false)
 repeat (first|refine zF ?_|refine zB ?_|refine zK G G G ?_)
 refine yG G G (pv_gtr G G) (fun n1=>?_) (fun n1=>?_)
 ·repeat (first|refine zF ?_|refine zR ?_|refine zB ?_|refine zE ?_|refine zK G G G ?_|refine zP ?_|refine zJ G ?_|refine L_build (vs:=[]) (cells:=[_,_,_,_]) G G G G ?_|refine L_stA G (vs:=[_,_,_,_]) G G G G (c':=[_,_,_,_]) G G ?_|refine L_alloc (c:=[_,_,_,_]) G G G (fun _=>?_))
  refine zY G G (zQ G G G) (refInt_spec w0 D b _ h11 hr11) ?_
  rintro _ _ ⟨i0,rfl,r0,rfl⟩
  repeat (first|refine zF ?_|refine zB ?_|refine zE ?_|refine zK G G G ?_|refine zZ G G G G G ?_|refine L_st G G G (c':=[_,_,_,_]) G G G G ?_)
  refine zY G G (zQ G G G) (refInt_spec w0 D b _ i0 r0) ?_
  rintro _ _ ⟨i1,rfl,r1,rfl⟩
  repeat (first|refine zF ?_|refine zB ?_|refine zE ?_|refine zK G G G ?_|refine zZ G G G G G ?_|refine L_st G G G (c':=[_,_,_,_]) G G G G ?_)
  refine zY G G (zQ G G G) (refInt_spec w0 D b _ i1 r1) ?_
  rintro _ _ ⟨i2,rfl,r2,rfl⟩
  repeat (first|refine zF ?_|refine zB ?_|refine zE ?_|refine zK G G G ?_|refine zZ G G G G G ?_|refine L_st G G G (c':=[_,_,_,_]) G G G G ?_)
  refine zY G G (zQ G G G) (refBlob_spec w0 D b _ i2 r2) ?_
  rintro vx _ ⟨i3,i4,hox,r3,rfl⟩
  obtain ⟨ax,cx,rfl⟩:=hox.shape
  repeat (first|refine zB ?_|refine zE ?_|refine zZ G G G G G ?_|refine L_ld G G G G G ?_|refine L_st G G G (c':=[_,_,_,_]) G G G G ?_|refine L_ldA G (vs:=[_,_,_,_]) G G G G G ?_|refine L_bs (vs:=[_]) (cells:=[_,_,_,_]) G G G G G G (fun _=>?_))
  have hnew:Rep.rd w0 (E'+i4) (oneSes (manyS oneSes k2 (s2,false)).2).1 [.int .i64 (intV (manyS oneSes k2 (s2,false)).2.1),.int .i64 (intV (intS (manyS oneSes k2 (s2,false)).2.1)),.int .i64 (intV (intS (intS (manyS oneSes k2 (s2,false)).2.1))),.slice ax (blobV (intS (intS (intS (manyS oneSes k2 (s2,false)).2.1)))).length cx]:=⟨ax,cx,rfl,hox.rd0.mono (show E'+i4=0+i4+E' by rw [hzero_add]; ac_rfl)⟩
  refine L_eff G G (ev_appendL (X:=E'+i4) (ns:=[(oneSes (manyS oneSes k2 (s2,false)).2).1]) (h:=hse) G G (oo2.mono G) (rd_one G) (All2.one hnew) G G G G G (by rw [hml]; simp only [List.length_singleton]; omega)) ?_
  rintro vo' _ ⟨i5,ho',rfl⟩
  have ho2:OwL w0 (E'+i4) (manyS oneSes (k2+1) (s2,false)).1 vo' i5:=ho'
  obtain ⟨ao2,co2,rfl⟩:=ho2.shape
  repeat (first|refine zB ?_|refine zE ?_|refine zK G G G ?_|refine zZ G G G G G ?_|refine L_sub G G (by omega) (by omega) G G ?_|refine L_st G G G (c':=[_,_,_,_,_,_,_,_,_,_]) G G G G ?_)
  rw [show (m:Int) - (k2:Int) - 1=(m:Int) - ((k2+1:Nat):Int) by omega]
  exact ⟨by omega,_,(by repeat (first|exact zT _|refine zO G ?_)),ao2,co2,E'+i4,i3,i5,_,rfl,ho2,r3,yK.out⟩
 obtain rfl:k2=m:=by omega
 rw [← eX] at oo2 hr11 ⊢
 clear hcn2 hml n1 eX hr10
 repeat (first|refine zF ?_|refine yD ?_|refine zB ?_|refine zE ?_|refine zK G G G ?_|refine zI G ?_)
 refine zY G G (zQ G G G) (refEnd_spec w0 D b (gXR bs).2.1 h11 hr11) ?_
 rintro _ _ ⟨rfl,rfl⟩
 skip
 refine yG G G (pv_neq G G) (fun n2=>?_) (fun n2=>?_)
 ·have ef:getFR bs=(Shd.zero,4):=by unfold getFR; rw [if_pos n2]
  rw [ef]
  repeat (first|refine zF ?_|refine zB ?_|refine zE ?_|refine zK G G G ?_|refine zM ?_|refine zJ G ?_|refine L_build (vs:=[]) (cells:=[_,_,_,_,_,_,_,_,_,_]) G G G G ?_|refine L_stA G (vs:=[_,_,_,_,_,_,_,_,_,_]) G G G G (c':=[_,_,_,_,_,_,_,_,_,_]) G G ?_)
  exact ⟨[_,_],X+0,_,⟨⟨_,rfl,zL G G G⟩,rfl,trivial⟩,⟨_,0,rfl,⟨none,0,none,0,none,0,none,0,none,0,none,0,none,0,rfl,RdL.nil _ _ _,RdL.nil _ _ _,RdL.nil _ _ _,RdL.nil _ _ _,RdL.nil _ _ _,RdL.nil _ _ _,RdL.nil _ _ _⟩,rfl⟩,by simp only [yB]; exact yK.out⟩
 ·have ef:getFR bs=(getSR bs,0):=by unfold getFR; rw [if_neg n2]
  rw [ef]
  repeat (first|refine zF ?_|refine zB ?_|refine zE ?_|refine zK G G G ?_|refine zP ?_|refine zM ?_|refine zI G ?_|refine L_ldA G (vs:=[_,_,_,_,_,_,_,_,_,_]) G G G G G ?_|refine L_stA G (vs:=[_,_,_,_,_,_,_,_,_,_]) G G G G (c':=[_,_,_,_,_,_,_,_,_,_]) G G ?_)
  exact ⟨[_,_],X+((E1+hb)+(E2+hk)+(E3+hlk)+(E4+hp)+hd+(E+hou)+(E'+hse)),_,⟨⟨_,rfl,zL G G G⟩,rfl,trivial⟩,⟨_,(E1+hb)+(E2+hk)+(E3+hlk)+(E4+hp)+hd+(E+hou)+(E'+hse),rfl,
   ⟨ab,cb,ak,ck,al,cl,ap,cp,ad,cd,ao,co,ax2,cx2,rfl,ob'.rd0.mono (show _=E1+hb+((E2+hk)+(E3+hlk)+(E4+hp)+hd+(E+hou)+(E'+hse)) by ac_rfl),ok'.rd0.mono (show _=E2+hk+((E1+hb)+(E3+hlk)+(E4+hp)+hd+(E+hou)+(E'+hse)) by ac_rfl),ol'.rd0.mono (show _=E3+hlk+((E1+hb)+(E2+hk)+(E4+hp)+hd+(E+hou)+(E'+hse)) by ac_rfl),op'.rd0.mono (show _=E4+hp+((E1+hb)+(E2+hk)+(E3+hlk)+hd+(E+hou)+(E'+hse)) by ac_rfl),
    od.rd0.mono (show _=0+hd+((E1+hb)+(E2+hk)+(E3+hlk)+(E4+hp)+(E+hou)+(E'+hse)) by rw [hzero_add]; ac_rfl),oo.rd0.mono (show _=E+hou+((E1+hb)+(E2+hk)+(E3+hlk)+(E4+hp)+hd+(E'+hse)) by ac_rfl),oo2.rd0.mono (show _=E'+hse+((E1+hb)+(E2+hk)+(E3+hlk)+(E4+hp)+hd+(E+hou)) by ac_rfl)⟩,rfl⟩,yK.out⟩
end Sl
end Go.Proofs.YtpkealohodeifaaGreat
