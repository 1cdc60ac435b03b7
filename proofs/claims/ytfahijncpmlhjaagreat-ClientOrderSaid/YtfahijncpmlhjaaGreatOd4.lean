/-
  What clientOrder.proved hangs on, part 4 of 7: ClWb, ClWp, ClOb, ClCc, ClWk, ClWh, ClWi, ClDf, ClWe, ClGm, ClGn, ClGo, ClWj, ClWl, ClWm, ClPe, ShSo, ClSf, ClWn, ClWo, ClPf, ClPg, ClWd, ClWf, ClWg.
-/
import Derived.Test.YtfahijncpmlhjaaGreatOd3
import Derived.Test.YtfahijncpmlhjaaGreatOd1
import Derived.Test.YtfahijncpmlhjaaGreatOd2
set_option linter.unusedVariables false
set_option linter.unusedSimpArgs false
namespace Go.Proofs.YtfahijncpmlhjaaGreat
open Go Go.RowKit
namespace Sl
set_option maxHeartbeats 16000000
set_option maxRecDepth 4000
set_option synthInstance.maxHeartbeats 400000
set_option synthInstance.maxSize 100000
attribute [local irreducible] Hold HoldL HoldW
structure OpSz (o:Opn):Prop where
 nums:NumsIn o
 parts:o.parts.length≤1000000000
 reads:o.reads.length≤1000000000
 writes:o.writes.length≤1000000000
 data:o.data.length≤1000000000
structure Bd (n:Nat) (c:Cl):Prop where
 seq:0≤c.seq∧c.seq≤n
 clock:0≤c.clock∧c.clock≤n
 reqs:c.reqs.length≤n
 ops:∀ r∈c.reqs.map core,OpSz r.o
 out:c.out.length≤n
 id:1≤c.id∧c.id≤4∧c.addr=100+c.id
theorem Bd.mono {n m:Nat} {c:Cl} (h:Bd n c) (hm:n≤m):Bd m c:=⟨⟨h.seq.1,by have:=h.seq.2; omega⟩,⟨h.clock.1,by have:=h.clock.2; omega⟩,by have:=h.reqs; omega,h.ops,by have:=h.out; omega,h.id⟩
theorem OpSz.asked {o:Opn} (h:OpSz o) {a s:Int} (ha:I64 a) (hs:I64 s):OpSz { o with client:=a,seq:=s }:=⟨⟨ha,hs,h.nums.2.2⟩,h.parts,h.reads,h.writes,h.data⟩
theorem Bd.ask {n:Nat} {c:Cl} (h:Bd n c) (hn:n≤1000000000) (g:Nat) {o:Opn} (ho:OpSz o) (l:Int) (t:Bool) (hd:Hrd):Bd (n+1) (askF c g o l t hd):=by
 have h1:=h.seq
 have h2:=h.id
 refine ⟨⟨by simp only [askF]; omega,by simp only [askF]; omega⟩,⟨h.clock.1,by have:=h.clock.2; simp only [askF]; omega⟩,by have:=h.reqs; simp only [askF,List.length_append,List.length_singleton]; omega,?_,by have:=h.out; simp only [askF]; omega,h.id⟩
 intro r hr
 simp only [askF,List.map_append,List.mem_append] at hr
 rcases hr with hr|hr
 ·exact h.ops r hr
 ·obtain ⟨q,hq,rfl⟩:=List.mem_map.1 hr
  rw [List.mem_singleton] at hq; subst hq
  exact ho.asked (by unfold I64; omega) (by unfold I64; omega)
theorem at_box {w0:World} {L R:Hp} {b:Nat} {e:List Value} {t:TypeId} {fz:Nat × Nat} [hb:HasPt b L (.cells e.toArray t fz) R]:At w0 L b 0 e:=fun j u hu=>by rw [Nat.zero_add]; exact zS hu
theorem zcL {G G' : Prop} (h : G') (f : Zh G'→G:=by intro h; (repeat (first|refine zP ?_|refine zI M ?_)); exact h.o) : G:=f ⟨h⟩
theorem zeM {G G' : Prop} (h : G') (f : Zh G'→G:=by intro h; (repeat (first|refine zE ?_|refine zK M M M ?_|refine zY M M M M M ?_|refine L_st M M M (c':=[_,_,_,_,_,_,_,_,_,_,_,_,_,_,_,_,_,_,_,_,_,_]) M M M M ?_)); exact h.o) : G:=f ⟨h⟩
section
variable (w0:World) (X:Hp) (b tb:Nat) (c:Cl) (S:Hp) (n:Nat)
theorem quiet_spec (hS:CliT w0 X b tb c S) (hB:Bd n c) (hn:n≤1000000000) (g:Nat) (o:Opn) (oe:List Value) (ho:Rep.rd w0 X o oe) :
  Spec Tryz.prog w0 208 [pB b,.int .i64 g,.agg oe.toArray] (X+S) (fun r h'=>Now w0 X b tb (quietF c g o) h'):=by
 have hask:=ask_spec w0 X b tb c S hS g o oe ho 0 .quiet (.func (.func 280) #[] #[]) M ⟨hB.seq.1,by have:=hB.seq.2; omega⟩ ⟨hB.clock.1,by have:=hB.clock.2; omega⟩ (by omega) (by have:=hB.reqs; omega)
 obtain ⟨a1,c1,a2,c2,a3,c3,a4,c4,rfl,-⟩:=ho
 refine zN Tryz.func208 M Tryz.ntmps208 Tryz.results208 M fun fr=>?_
 repeat (first|refine zF ?_|refine zB ?_|refine zE ?_|refine zK M M M ?_|refine L_ldA M (vs:=[_,_,_,_,_,_,_,_,_,_,_,_,_,_,_,_,_]) M M M M M ?_|refine L_box M (c:=[_,_,_,_,_,_,_,_,_,_,_,_,_,_,_,_,_]) M M M (fun _=>?_))
 refine zX M M (zQ M M M) hask ?_
 rintro _ _ ⟨p,S',rfl,hL,rfl⟩
 obtain ⟨⟨vmem,vr0,vsets,vmr,vg,ve,vd,vrq,vop,vow,vw,vco,vou,van⟩,ps,hG,hE,hD,hR,hT,hK,hO,P,rfl⟩:=hL
 obtain ⟨r1,r2,r3,r4,rfl⟩:=P.reqs
 obtain ⟨h1,h2,hq,r6,rfl⟩:=RqsAt.last r4
 obtain ⟨b1,d1,b2,d2,b3,d3,b4,d4,hv,rfl,q1,q2,q3,q4,hh⟩:=hq
 refine zeM ?_
 have hP:Parts w0 X b (quietF c g o) ⟨vmem,vr0,vsets,vmr,vg,ve,vd,vrq,vop,vow,vw,vco,vou,van⟩ tb (ps++[PRq.mk p]) hG hE hD _ hT hK hO :=
  Parts.mk P.mem P.rngs0 P.sets P.mr P.guess P.ended P.dbts (ReqsAt.intro r3 (RqsAt.append r6 (p:=p) (r:=reqF c g o 0 true .quiet) ⟨b1,d1,b2,d2,b3,d3,b4,d4,hv,rfl,q1,q2,q3,q4,hh⟩)) P.opn P.own P.txn P.waits P.coord P.out P.ansd
 exact end_cli [] trivial hP (by exact rfl) hP.now
theorem looking_spec (hS:CliT w0 X b tb c S) (hB:Bd n c) (hn:n≤1000000000) (later:Int) (hl:0≤later∧later≤1) :
  Spec Tryz.prog w0 296 [pB b,.int .i64 later] (X+S) (fun r h'=>After w0 X b tb (lookF c later) h'):=by
 refine zN Tryz.func296 M Tryz.ntmps296 Tryz.results296 M fun fr=>?_
 repeat (first|refine zF ?_|refine zB ?_|refine zE ?_|refine zK M M M ?_|refine L_ld M M M M M ?_|refine L_build (vs:=[_]) (cells:=[_,_,_,_,_,_,_,_,_,_,_,_,_,_,_,_,_]) M M M M ?_|refine L_box M (c:=[_]) M M M (fun _=>?_)|refine L_clo M M M ?_)
 rename_i bx
 have hS2:CliT w0 (X+pt bx (.cells [pB b].toArray 24 (0,0))) b tb c S:=hS.mono M
 have hask:=ask_spec w0 _ b tb c S hS2 0 (op0 8) (cellsO (op0 8) (.slice none 0 0) (.slice none 0 0) (.slice none 0 0) (.slice none 0 0)) ⟨none,0,none,0,none,0,none,0,rfl,RdL.nil _ _ _,RdL.nil _ _ _,RdL.nil _ _ _,RdL.nil _ _ _⟩ later .look (.func (.func 353) #[] [pB bx].toArray) ⟨bx,rfl,at_box⟩ ⟨hB.seq.1,by have:=hB.seq.2; omega⟩ ⟨hB.clock.1,by have:=hB.clock.2; omega⟩ hl (by have:=hB.reqs; omega)
 refine zX M M (zQ M M M) hask ?_
 rintro _ _ ⟨p,S',rfl,hL,rfl⟩
 obtain ⟨⟨vmem,vr0,vsets,vmr,vg,ve,vd,vrq,vop,vow,vw,vco,vou,van⟩,ps,hG,hE,hD,hR,hT,hK,hO,P,rfl⟩:=hL
 obtain ⟨r1,r2,r3,r4,rfl⟩:=P.reqs
 obtain ⟨h1,h2,hq,r6,rfl⟩:=RqsAt.last r4
 obtain ⟨b1,d1,b2,d2,b3,d3,b4,d4,hv,rfl,q1,q2,q3,q4,hh⟩:=hq
 refine zeM ?_
 have hP:Parts w0 (X+pt bx (.cells [pB b].toArray 24 (0,0))) b (lookF c later) ⟨vmem,vr0,vsets,vmr,vg,ve,vd,vrq,vop,vow,vw,vco,vou,van⟩ tb (ps++[PRq.mk p]) hG hE hD _ hT hK hO :=
  Parts.mk P.mem P.rngs0 P.sets P.mr P.guess P.ended P.dbts (ReqsAt.intro r3 (RqsAt.append r6 (p:=p) (r:=reqF c 0 (op0 8) later true .look) ⟨b1,d1,b2,d2,b3,d3,b4,d4,hv,rfl,q1,q2,q3,q4,hh⟩)) P.opn P.own P.txn P.waits P.coord P.out P.ansd
 exact end_cli [] trivial hP (by exact rfl) hP.now.after.trans
theorem turn_spec (hS:CliT w0 X b tb c S) (hB:Bd n c) (hn:n≤1000000000) :
  Spec Tryz.prog w0 233 [pB b] (X+S) (fun r h'=>After w0 X b tb (turnF c) h'):=by
 have hl:=fun (S':Hp) (hS':CliT w0 X b tb { c with stale:=true } S')=>looking_spec w0 X b tb { c with stale:=true } S' n hS' ⟨hB.seq,hB.clock,hB.reqs,hB.ops,hB.out,hB.id⟩ hn 0 (by omega)
 obtain ⟨⟨vmem,vr0,vsets,vmr,vg,ve,vd,vrq,vop,vow,vw,vco,vou,van⟩,ps,hG,hE,hD,hR,hT,hK,hO,P,rfl⟩:=hS
 refine zN Tryz.func233 M Tryz.ntmps233 Tryz.results233 M fun fr=>?_
 refine zbF ?_
 unfold turnF
 cases hst:c.stale
 ·repeat (first|refine zF ?_|refine zB ?_|refine zE ?_|refine zK M M M ?_|refine zY M M M M M ?_|refine zJ M ?_|refine L_st M M M (c':=(_::_::_::_::_::_::_::_::_::_::_::_::_::_::_::_::_::_::_::_::_::_::_::_::_::_::_::_::_::_::_::_::_::_::_::_::_::_::[])) M M M M ?_)
  have hP:Parts w0 X b { c with stale:=true } ⟨vmem,vr0,vsets,vmr,vg,ve,vd,vrq,vop,vow,vw,vco,vou,van⟩ tb ps hG hE hD hR hT hK hO :=
   Parts.mk P.mem P.rngs0 P.sets P.mr P.guess P.ended P.dbts P.reqs P.opn P.own P.txn P.waits P.coord P.out P.ansd
  refine zX M M (zQ M M M) (hl _ ⟨_,ps,hG,hE,hD,hR,hT,hK,hO,hP,rfl⟩) ?_
  rintro _ _ hA
  repeat (refine zE ?_)
  exact ⟨[],_,_,trivial,hA,yJ.out⟩
 ·refine zcL ?_
  exact end_cli [] trivial P (by exact rfl) P.now.after
theorem drop1_spec (r:Rq) (p:Nat) (h:Hp) (hr:RqAt w0 X b tb p r h):Spec Tryz.prog w0 207 [pB p] h (fun v h'=>v=.bool (!r.tidy)∧h=h'):=by
 obtain ⟨b1,d1,b2,d2,b3,d3,b4,d4,hv,rfl,q1,q2,q3,q4,hh⟩:=hr
 refine zN Tryz.func207 M Tryz.ntmps207 Tryz.results207 M fun fr=>?_
 refine zdF ?_
 exact ⟨[_],_,_,⟨rfl,trivial⟩,⟨rfl,rfl⟩,yJ.out⟩
end
set_option maxHeartbeats 4000000
section
variable (w0:World) (X:Hp) (b tb:Nat) (c:Cl) (S:Hp) (n:Nat)
theorem came_spec (v:Int):Spec Tryz.prog w0 122 [.int .i64 v] 0 (fun r h'=>r=.int .i64 (cameF v)∧0=h'):=by
 refine zN Tryz.func122 M Tryz.ntmps122 Tryz.results122 M fun fr=>?_
 refine zaC ?_
 refine yF M M (pv_eql M M) (fun h=>?_) (fun h=>?_)
 ·refine zaB ?_
  exact ⟨[_],0,_,⟨rfl,trivial⟩,⟨by unfold cameF; rw [if_pos h]; rfl,rfl⟩,yJ.out⟩
 ·refine zbC ?_
  exact ⟨[_],0,_,⟨rfl,trivial⟩,⟨by unfold cameF; rw [if_neg h]; rfl,rfl⟩,yJ.out⟩
theorem closing_spec (hS:CliT w0 X b tb c S) (e:Int) (ho:c.kind=7→c.own=true) :
  Spec Tryz.prog w0 121 [pB b,.int .i64 e] (X+S) (fun r h'=>Now w0 X b tb (closeF c e) h'):=by
 have m1:c.kind=7→closeF c e=sayF c ⟨e,c.cur.id,[]⟩:=fun h=>by unfold closeF; rw [if_pos h]
 have m2:c.kind≠7→closeF c e=sayF { c with opn:=false } ⟨e,0,[]⟩:=fun h=>by unfold closeF; rw [if_neg h]
 obtain ⟨⟨vmem,vr0,vsets,vmr,vg,ve,vd,vrq,vop,vow,vw,vco,vou,van⟩,ps,hG,hE,hD,hR,hT,hK,hO,P,rfl⟩:=hS
 refine zN Tryz.func121 M Tryz.ntmps121 Tryz.results121 M fun fr=>?_
 repeat (first|refine zF ?_|refine zB ?_|refine zE ?_|refine zK M M M ?_|refine zY M M M M M ?_|refine L_ld M M M M M ?_|refine L_build (vs:=[_]) (cells:=[_,_,_]) M M M M ?_|refine L_stA M (vs:=[_,_,_]) M M M M (c':=[_,_,_]) M M ?_|refine L_alloc (c:=[_,_,_]) M M M (fun _=>?_))
 refine yF M M (pv_eql M M) (fun h=>?_) (fun h=>?_)
 ·rw [m1 h]
  have how:=ho h
  have hvo:=P.own
  rw [how] at hvo
  simp only [ptrIf,cond_true] at hvo
  subst hvo
  have hT2:TxnAt w0 X tb c.cur hT:=by
   rcases P.txn with h|h
   ·exact h
   ·rw [h.2.1] at how; cases how
  obtain ⟨vr,va,vw',ap,cp,hr,ha,hw,rfl,k1,k2,k3,k4⟩:=id hT2
  repeat (first|refine zB ?_|refine zE ?_|refine zK M M M ?_|refine zY M M M M M ?_|refine L_ld M M M M M ?_|refine zJ M ?_|refine L_st M M M (c':=[_,_,_]) M M M M ?_|refine L_ldA M (vs:=[_,_,_]) M M M M M ?_)
  refine zX M M (zQ M M M) (saying_spec w0 X b tb c _ ⟨_,ps,hG,hE,hD,hR,_,hK,hO,P,rfl⟩ ⟨e,c.cur.id,[]⟩ none 0 (RdL.nil _ _ _)) ?_
  rintro _ _ hA
  repeat (refine zE ?_)
  exact ⟨[],_,_,trivial,hA,yJ.out⟩
 ·rw [m2 h]
  repeat (first|refine zB ?_|refine zE ?_|refine zK M M M ?_|refine zY M M M M M ?_|refine zI M ?_|refine L_st M M M (c':=(_::_::_::_::_::_::_::_::_::_::_::_::_::_::_::_::_::_::_::_::_::_::_::_::_::_::_::_::_::_::_::_::_::_::_::_::_::_::[])) M M M M ?_|refine L_ldA M (vs:=[_,_,_]) M M M M M ?_)
  have hP:Parts w0 X b { c with opn:=false } ⟨vmem,vr0,vsets,vmr,vg,ve,vd,vrq,.pointer none,vow,vw,vco,vou,van⟩ tb ps hG hE hD hR hT hK hO :=
   Parts.mk P.mem P.rngs0 P.sets P.mr P.guess P.ended P.dbts P.reqs M P.own (P.txn.imp id fun h=>⟨rfl,h.2⟩) P.waits P.coord P.out P.ansd
  refine zX M M (zQ M M M) (saying_spec w0 X b tb { c with opn:=false } _ ⟨_,ps,hG,hE,hD,hR,hT,hK,hO,hP,rfl⟩ ⟨e,0,[]⟩ none 0 (RdL.nil _ _ _)) ?_
  rintro _ _ hA
  repeat (refine zE ?_)
  exact ⟨[],_,_,trivial,hA,yJ.out⟩
end
end Sl
end Go.Proofs.YtfahijncpmlhjaaGreat
namespace Go.Proofs.YtfahijncpmlhjaaGreat
open Go Go.RowKit
namespace Sl
theorem planned_grp (x:Cal) (h:checkF (planOp x)=0):grp x.src∧grp x.dst:=by
 by_cases hp:PlacedP (planOp x)
 ·obtain ⟨_,h2,_⟩:=hp
  have h3:=h2.2.2.1 M
  simp only [planOp] at h3
  unfold grp; omega
 ·exfalso
  unfold checkF at h
  split at h
  ·omega
  split at h
  ·omega
  split at h
  ·omega
  split at h
  ·omega
  rw [if_pos (fun hh=>hp hh.1)] at h
  omega
theorem chain_grp :∀ {l:List Rng} {a:Int} {had:List Int} {n e:Int},chainF l a had n=some e→∀ r∈l,grp r.group
 | [],_,_,_,_,_=>by simp
 | r::l,a,had,n,e,h=>by
  simp only [chainF] at h
  split at h
  ·cases h
  ·rename_i hn
   intro x hx
   rcases List.mem_cons.1 hx with rfl|hx
   ·simp only [not_or] at hn; unfold grp; omega
   ·exact chain_grp h x hx
theorem checkR_grp {m:Mpp} (h:checkR m=0):∀ r∈m.rngs,grp r.group:=by
 unfold checkR at h
 split at h
 ·omega
 ·rename_i e he; exact chain_grp he
theorem getMap_grp (b:List Bt) (h:(getMapF b).2=0):∀ r∈(getMapF b).1.rngs,grp r.group:=by
 unfold getMapF at h ⊢
 split
 ·simp [noMap]
 ·rename_i h1
  rw [if_neg h1] at h
  simp only at h ⊢
  split
  ·simp [noMap]
  ·rename_i h2
   rw [if_neg h2] at h
   split
   ·simp [noMap]
   ·rename_i h3
    simp only [ne_eq,Decidable.not_not] at h3
    exact checkR_grp h3
theorem Fine.map {c:Cl} (h:Fine c) {m:Mpp} (hm:∀ r∈m.rngs,grp r.group):Fine { c with m:=m }:=⟨h.guess,h.reqs,hm,h.parts,h.asked,h.doubts,h.coord,h.nmem⟩
def Learns (c c':Cl):Prop:=∃ m,c'={ c with m:=m }∧(Fine c→Fine c')
theorem learnF_learns (c:Cl) (b:List Bt):Learns c (learnF c b):=by
 unfold learnF
 split
 ·rename_i h; exact ⟨_,rfl,fun hf=>hf.map (getMap_grp b h.1)⟩
 ·exact ⟨c.m,rfl,id⟩
theorem Base.learns {c c':Cl} (h:Base c) (s:Learns c c'):Base c':=by obtain ⟨m,rfl,-⟩:=s; exact h
def Any (c:Cl):Prop:=Work c∨Rest c
theorem any_adds {c c':Cl} (h:Any c) (s:Adds c c'):Any c'∧c'.busy=c.busy:=by
 have hp:=pendH_adds s
 have hk:=adds_keep s
 refine ⟨?_,hk.1⟩
 obtain ⟨_,_,_,l,rfl,hl⟩:=s
 simp only [Any,Work,Rest,Quiet,PhA,PhB,PhC,PhD,PhI,hp,kindW,kindH] at h ⊢
 exact h
theorem any_learns {c c':Cl} (h:Any c) (s:Learns c c'):Any c'∧c'.busy=c.busy:=by
 obtain ⟨m,rfl,-⟩:=s
 exact ⟨h,rfl⟩
theorem any_stale {c:Cl} (h:Any c) (b:Bool):Any { c with stale:=b }:=h
theorem Fine.stale {c:Cl} (h:Fine c) (b:Bool):Fine { c with stale:=b }:=⟨h.guess,h.reqs,h.rngs,h.parts,h.asked,h.doubts,h.coord,h.nmem⟩
theorem goF_any {c:Cl} (h:Any c) (hf:Fine c):Any (goF c)∧(goF c).busy=c.busy∧Fine (goF c):=by
 unfold goF
 split
 ·exact ⟨h,rfl,hf⟩
 ·rename_i w hw
  rcases h with ⟨h1,h2,h3⟩|⟨h1,h2,h3⟩
  ·have hb:Base { c with waits:=none }∧kindW { c with waits:=none } w:=by
    rcases h3 with ⟨a,b,w',e,k⟩|⟨_,e,_⟩|⟨_,_,e,_⟩|⟨_,e,_⟩
    ·rw [hw] at e; cases e
     exact ⟨⟨h1,h2,a,rfl,b⟩,by cases w<;>exact k⟩
    ·rw [hw] at e; cases e
    ·rw [hw] at e; cases e
    ·rw [hw] at e; cases e
   have hf2:Fine { c with waits:=none }:=⟨hf.guess,hf.reqs,hf.rngs,hf.parts,hf.asked,hf.doubts,hf.coord,hf.nmem⟩
   obtain ⟨a,b⟩:=runW_work hf2 hb.1 hb.2
   exact ⟨.inl a,by rw [a.1,h1],b⟩
  ·rw [h3.2.1] at hw; cases hw
def HeardOk (c c':Cl):Prop:=Fine c'∧((c.busy=true∧(Work c'∨Said c'))∨(c.busy=false∧Rest c'))
theorem HeardOk.of_any {c c':Cl} (h:Any c') (hb:c'.busy=c.busy) (hf:Fine c'):HeardOk c c':=by
 refine ⟨hf,?_⟩
 rcases h with h|h
 ·exact .inl ⟨by rw [← hb]; exact h.1,.inl h⟩
 ·exact .inr ⟨by rw [← hb]; exact h.1,h⟩
theorem heard_look {c:Cl} (h:Any c) (hf:Fine c) (x:Res):HeardOk c (heardF c .look x):=by
 simp only [heardF]
 split
 ·have:=any_adds h (lookF_adds c 1)
  exact .of_any this.1 this.2 (hf.adds (lookF_adds c 1))
 ·have hl:=learnF_learns c x.data
  have h1:=any_learns h hl
  have hf1:Fine (learnF c x.data):=hl.choose_spec.2 hf
  generalize learnF c x.data=c1 at h1 hf1
  split
  ·have:=any_adds h1.1 (lookF_adds c1 1)
   exact .of_any this.1 (this.2.trans h1.2) (hf1.adds (lookF_adds c1 1))
  ·have:=goF_any (any_stale h1.1 false) (hf1.stale false)
   exact .of_any this.1 (this.2.1.trans h1.2) this.2.2
theorem heard_one {c:Cl} (hb:Base c) (ho:c.own=false) (hf:Fine c) {h:Hrd} (hk:kindH c h) (hh:hrdOk h) (x:Res):HeardOk c (heardF c h x):=by
 have hs:∀ a,HeardOk c (sayF c a):=fun a=>⟨hf.say a,.inl ⟨hb.1,.inr (sayF_said a hb.2.2.1 hb.2.2.2.2)⟩⟩
 have hw:∀ {c'},Work c'∧Fine c'→HeardOk c c':=fun h=>⟨h.2,.inl ⟨hb.1,.inl h.1⟩⟩
 cases h with
 | quiet=>exact hk.elim
 | look=>exact hk.elim
 | part o g=>exact hk.elim
 | read b =>
  simp only [heardF]
  split
  ·exact ⟨(hf.reads _).say _,.inl ⟨hb.1,.inr (sayF_said _ hb.2.2.1 hb.2.2.2.2)⟩⟩
  ·split
   ·exact hw (readF_work hf hb ho hk _ _)
   ·obtain ⟨a,b⟩:=lostF_said x.code hf hb.2.2.1 hb.2.2.2.2
    exact ⟨b,.inl ⟨hb.1,.inr a⟩⟩
 | kept y =>
  simp only [heardF]
  split
  ·exact hw (keptF_work hf hb ho hk _ _)
  ·split
   ·have ht:=turnF_adds c
    have hkk:=adds_keep ht
    exact hw (mappedF_work (hf.adds ht) (hb.adds ht) ⟨by rw [hkk.2.2.2.2.2.1]; exact hk,by rw [hkk.2.2.2.1]; exact ho⟩)
   ·exact hs _
 | plan y =>
  simp only [heardF]
  split
  ·exact hs _
  ·exact hw ⟨ask_work (h:=.frz y _) hb ho _ _ _ hk,hf.ask _ _ _ (grp_nat hh.1) hh (fun h=>by cases h)⟩
 | frz y e =>
  simp only [heardF]
  split
  ·exact hw ⟨ask_work (h:=.inst y _) hb ho _ _ _ hk,hf.ask _ _ _ (grp_nat hh.2) hh (fun h=>by cases h)⟩
  ·split
   ·exact hw ⟨ask_work (h:=.frz y _) hb ho _ _ _ hk,hf.ask _ _ _ (grp_nat hh.1) hh (fun h=>by cases h)⟩
   ·exact hs _
 | inst y e =>
  simp only [heardF]
  split
  ·exact hs _
  ·exact hw ⟨ask_work (h:=.fin y _) hb ho _ _ _ hk,hf.ask _ _ _ (by decide) hh.1 (fun h=>by cases h)⟩
 | fin y e =>
  simp only [heardF]
  split
  ·exact hs _
  ·have hl:=learnF_learns c x.data
   have hb1:=hb.learns hl
   have hf1:Fine (learnF c x.data):=hl.choose_spec.2 hf
   generalize learnF c x.data=c1 at hb1 hf1
   have hq:=quietF_adds c1 ⟨7,0,0,0,0,e,0,0,0,0,0,0,0,[],[],[],[]⟩ (grp_nat hh)
   have hb2:=hb1.adds hq
   exact ⟨(hf1.adds hq).say _,.inl ⟨hb.1,.inr (sayF_said _ hb2.2.2.1 hb2.2.2.2.2)⟩⟩
 | change y =>
  simp only [heardF]
  split
  ·exact hw ⟨ask_work (h:=.change y) hb ho _ _ _ hk,hf.ask _ _ _ (grp_nat hh) hh (fun h=>by cases h)⟩
  ·exact hs _
theorem heard_part {c:Cl} (hb:c.busy=true∧Quiet c) (hp:PhC c) (hf:Fine c) {o:Opn} {g:Int} (hg:grp g) (x:Res):HeardOk c (heardF c (.part o g) x):=by
 have hwork:Work c:=⟨hb.1,hb.2,.inr (.inr (.inl hp))⟩
 simp only [heardF]
 split
 ·exact ⟨hf,.inl ⟨hb.1,.inl hwork⟩⟩
 ·split
  ·refine ⟨hf.ask _ _ _ (grp_nat hg) hg (fun h=>by cases h),.inl ⟨hb.1,.inl ⟨hb.1,hb.2,.inr (.inr (.inl ⟨?_,hp.2⟩))⟩⟩⟩
   intro h hh
   unfold partF at hh
   rw [pendH_ask] at hh
   rcases List.mem_append.1 hh with hh|hh
   ·exact hp.1 h hh
   ·rw [List.mem_singleton] at hh; subst hh; rfl
  ·have h1:Adds c (if x.code=26 then turnF c else c):=by split<;>first|exact turnF_adds c|exact Adds.refl c
   generalize (if x.code=26 then turnF c else c)=c1 at h1
   have hk:=adds_keep h1
   obtain ⟨a,b⟩:=comeF_ok (hf.adds h1) ⟨hk.1.trans hb.1,hk.2.2.2.2.2.2.2.2.2.2.1.trans hb.2.1,hk.2.2.2.2.2.2.2.2.2.1.trans hb.2.2⟩ (hk.2.1.trans hp.2.2.1) (.inl (hk.2.2.2.1.trans hp.2.1)) 2
   exact ⟨b,.inl ⟨hb.1,a⟩⟩
theorem kindH_reqs {c:Cl} (reqs:List Rq) {h:Hrd} (k:kindH c h):kindH { c with reqs:=reqs } h:=by cases h<;>exact k
theorem split_at {l:List Rq} {i:Nat} {r:Rq} (h:l[i]?=some r):∃ A B,l=A++r::B∧l.eraseIdx i=A++B:=by
 obtain ⟨hi,rfl⟩:=List.getElem?_eq_some_iff.1 h
 exact ⟨l.take i,l.drop (i+1),by simp,List.eraseIdx_eq_take_drop_succ ..⟩
theorem pendH_erase {c:Cl} {i:Nat} {r:Rq} (h:c.reqs[i]?=some r) :
  (r.tidy=true→pendH { c with reqs:=c.reqs.eraseIdx i }=pendH c)∧(r.tidy=false→∃ a b,pendH c=a++r.heard::b∧pendH { c with reqs:=c.reqs.eraseIdx i }=a++b):=by
 obtain ⟨A,B,e1,e2⟩:=split_at h
 unfold pendH
 simp only [e1,e2]
 rw [← e1,e2,e1]
 constructor
 ·intro ht; simp [List.filter_append,List.filter_cons,ht]
 ·intro ht
  exact ⟨(A.filter fun r=>!r.tidy).map (·.heard),(B.filter fun r=>!r.tidy).map (·.heard),by simp [List.filter_append,List.filter_cons,ht],by simp [List.filter_append]⟩
theorem Fine.erase {c:Cl} (h:Fine c) (i:Nat):Fine { c with reqs:=c.reqs.eraseIdx i }:=by
 refine ⟨h.guess,?_,h.rngs,h.parts,h.asked,h.doubts,h.coord,h.nmem⟩
 intro r hr
 obtain ⟨q,hq,rfl⟩:=List.mem_map.1 hr
 exact h.reqs _ (List.mem_map.2 ⟨q,List.mem_of_mem_eraseIdx hq,rfl⟩)
theorem Fine.guessed {c:Cl} (h:Fine c) (g:Nat) (n:Int):Fine (guessF c g n):=⟨by simp [guessF,h.guess],h.reqs,h.rngs,h.parts,h.asked,h.doubts,h.coord,h.nmem⟩
theorem any_guess {c:Cl} (h:Any c) (g:Nat) (n:Int):Any (guessF c g n):=h
theorem heard_ok {c:Cl} (h:Any c) (hf:Fine c) {i:Nat} {r:Rq} (hr:c.reqs[i]?=some r) (x:Res):HeardOk c (heardF { c with reqs:=c.reqs.eraseIdx i } r.heard x):=by
 have hm:r∈c.reqs:=List.mem_of_getElem? hr
 obtain ⟨g5,hok,htf⟩:=hf.reqs (core r) (List.mem_map.2 ⟨r,hm,rfl⟩)
 obtain ⟨pt,pf⟩:=pendH_erase hr
 have hfe:=hf.erase i
 have fin:∀ {c'},HeardOk { c with reqs:=c.reqs.eraseIdx i } c'→HeardOk c c':=fun h=>h
 cases ht:r.tidy with
 | true =>
  have hp:=pt ht
  have hany:Any { c with reqs:=c.reqs.eraseIdx i }:=by
   simp only [Any,Work,Rest,Quiet,PhA,PhB,PhC,PhD,PhI,hp,kindW,kindH] at h ⊢
   exact h
  have:=htf ht
  cases hh:r.heard with
  | quiet=>exact HeardOk.of_any hany M hfe
  | look=>exact fin (heard_look hany hfe x)
  | _=>simp only [core] at this; rw [hh] at this; cases this
 | false =>
  obtain ⟨a,b,e1,e2⟩:=pf ht
  rcases h with ⟨h1,h2,h3⟩|⟨h1,h2,h3⟩
  ·rcases h3 with ⟨e,_⟩|⟨⟨hd,e,k⟩,w,co,ow⟩|hC|⟨e,_⟩
   ·rw [e1] at e; simp at e
   ·rw [e1] at e
    have hab:a=[]∧b=[]∧r.heard=hd:=by
     cases a with
     | nil=>simp at e; exact ⟨rfl,e.2,e.1⟩
     | cons y a=>simp at e
    obtain ⟨rfl,rfl,rfl⟩:=hab
    exact fin (heard_one (c:={ c with reqs:=c.reqs.eraseIdx i }) ⟨h1,h2,e2,w,co⟩ ow hfe (h:=r.heard) (kindH_reqs _ k) hok x)
   ·obtain ⟨hall,ho,hw,hk⟩:=hC
    have hpart:=hall r.heard (by rw [e1]; simp)
    cases hh:r.heard with
    | part o g =>
     refine fin (heard_part (c:={ c with reqs:=c.reqs.eraseIdx i }) ⟨h1,h2⟩ ⟨?_,ho,hw,hk⟩ hfe (by have:=hok; simp only [core,hh,hrdOk] at this; exact this) x)
     intro y hy
     rw [e2] at hy
     refine hall y ?_
     rw [e1]
     rcases List.mem_append.1 hy with hy|hy
     ·simp [hy]
     ·simp [hy]
    | _=>rw [hh] at hpart; cases hpart
   ·rw [e1] at e; simp at e
  ·have:=h3.1; rw [e1] at this; simp at this
theorem HeardOk.same {c c1 c':Cl} (h:HeardOk c1 c') (e:c1.busy=c.busy):HeardOk c c':=by unfold HeardOk at h ⊢; rwa [e] at h
theorem any_same {c c':Cl} (h:Any c) (s:Same c c'):Any c'∧c'.busy=c.busy:=by
 have:=same_pres s
 refine ⟨?_,by obtain ⟨_,_,rfl,_⟩:=s; rfl⟩
 rcases h with h|h
 ·exact .inl (this.1 h)
 ·exact .inr (this.2.2 h)
theorem toldF_ok {c:Cl} (h:Any c) (hf:Fine c) (m:Msg):HeardOk c (toldF c m):=by
 unfold toldF
 split
 ·exact .of_any h M hf
 ·rename_i i hi
  split
  ·exact .of_any h M hf
  ·rename_i r hr
   split
   ·split
    ·have:=any_same (any_guess h r.group m.index) (sendF_same (guessF c r.group m.index) i)
     exact .of_any this.1 this.2 ((hf.guessed _ _).same (sendF_same _ _))
    ·exact .of_any h M hf
   ·split
    ·exact .of_any h M hf
    ·have key:∀ c1:Cl,(c1=c∨c1=guessF c r.group m.src)→HeardOk c (heardF { c1 with reqs:=c1.reqs.eraseIdx i } r.heard (getRes m.data).1):=by
      rintro c1 (rfl|rfl)
      ·exact heard_ok h hf hr _
      ·exact (heard_ok (any_guess h r.group m.src) (hf.guessed _ _) (i:=i) hr _).same M
     simp only
     split
     ·exact key _ (.inr M)
     ·exact key _ (.inl M)
theorem stepF_ok {c:Cl} (h:Work c) (hf:Fine c) (hs:c.coord.isSome=true) (m:Msg):HeardOk c (stepF c m):=by
 unfold stepF
 split
 ·rename_i e; rw [e] at hs; cases hs
 ·rename_i k hk
  simp only
  have h1:Work { c with coord:=some (stepC k m).1 }∧Fine { c with coord:=some (stepC k m).1 }∧c.waits=none∧(c.own=true∨(c.own=false∧(∃ d∈c.doubts,d.id=c.about)∧(c.kind=6∨c.kind=9))):=by
   refine ⟨⟨h.1,h.2.1,?_⟩,⟨hf.guess,hf.reqs,hf.rngs,hf.parts,hf.asked,hf.doubts,fun _ ho=>hf.coord hs ho,hf.nmem⟩,?_⟩
   ·rcases h.2.2 with ⟨_,e,_⟩|⟨_,_,e,_⟩|⟨a,b,d,e⟩|⟨a,b,d,e,f,g⟩
    ·rw [e] at hs; cases hs
    ·rw [e] at hs; cases hs
    ·exact .inr (.inr (.inl ⟨a,b,d,e⟩))
    ·exact .inr (.inr (.inr ⟨a,b,d,rfl,f,g⟩))
   ·rcases h.2.2 with ⟨_,e,_⟩|⟨_,_,e,_⟩|⟨a,b,d,e⟩|⟨a,b,d,e,f,g⟩
    ·rw [e] at hs; cases hs
    ·rw [e] at hs; cases hs
    ·exact ⟨d,.inl b⟩
    ·exact ⟨b,.inr ⟨d,f,g⟩⟩
  obtain ⟨hw1,hf1,hwt,hph⟩:=h1
  have hsm:=(putsF_same (stepC k m).2 { c with coord:=some (stepC k m).1 }).1
  have hw2:=(same_pres hsm).1 hw1
  have hf2:=hf1.same hsm
  split
  ·obtain ⟨o,q,e,_⟩:=hsm
   rw [e] at hw2 hf2 ⊢
   obtain ⟨a,b⟩:=comeF_ok hf2 ⟨hw2.1,hw2.2.1⟩ hwt hph (valueC (stepC k m).1)
   exact ⟨b,.inl ⟨h.1,a⟩⟩
  ·exact ⟨hf2,.inl ⟨h.1,.inl hw2⟩⟩
theorem firstF_core {l m:List Rq} (h:l.map core=m.map core):firstF l=firstF m:=by
 have hlen:l.length=m.length:=by have:=congrArg List.length h; simpa using this
 unfold firstF
 rw [hlen]
 refine List.filter_congr fun i _=>?_
 have hi:(l.map core)[i]?=(m.map core)[i]?:=by rw [h]
 simp only [List.getElem?_map] at hi
 have ht:∀ g:Nat,((l.take i).all fun q=>decide (q.group≠g))=((m.take i).all fun q=>decide (q.group≠g)):=fun g=>by
  have e:(l.take i).map core=(m.take i).map core:=by rw [List.map_take,List.map_take,h]
  have e1:∀ l:List Rq,(l.all fun q=>decide (q.group≠g))=((l.map core).all fun q=>decide (q.group≠g)):=fun l=>by rw [List.all_map]; rfl
  rw [e1,e1,e]
 cases h1:l[i]? with
 | none=>cases h2:m[i]? with
  | none=>rfl
  | some r=>rw [h1,h2] at hi; cases hi
 | some r=>cases h2:m[i]? with
  | none=>rw [h1,h2] at hi; cases hi
  | some q =>
   rw [h1,h2] at hi
   simp only [Option.map_some,Option.some.injEq] at hi
   have:r.group=q.group:=congrArg Core.group hi
   simp only [this,ht]
def SentOk (c:Cl):Prop:=∀ i∈firstF c.reqs,dueF c i=false
theorem putF_reqs (c:Cl) (m:Msg):(putF c m).reqs=c.reqs∧(putF c m).clock=c.clock:=by
 unfold putF; simp only; split<;>exact ⟨rfl,rfl⟩
theorem sendF_sent (c:Cl) (i:Nat):(sendF c i).reqs=(sentF c i).reqs∧(sendF c i).clock=c.clock:=by
 unfold sendF
 split
 ·rename_i h
  refine ⟨?_,rfl⟩
  unfold sentF
  simp only
  apply List.ext_getElem?
  intro j
  rw [List.getElem?_modify]
  by_cases hj:i=j
  ·subst hj; rw [h]; rfl
  ·cases c.reqs[j]?<;>simp [hj]
 ·split
  ·exact ⟨(putF_reqs _ _).1,(putF_reqs _ _).2⟩
  ·exact ⟨rfl,rfl⟩
theorem due_send {c:Cl} (h0:0≤c.clock) (i j:Nat):dueF (sendF c i) j=if i=j then false else dueF c j:=by
 obtain ⟨h1,h2⟩:=sendF_sent c i
 unfold dueF
 rw [h1,h2]
 unfold sentF
 simp only [List.getElem?_modify]
 cases c.reqs[j]? with
 | none=>split<;>simp_all
 | some r =>
  by_cases hj:i=j
  ·simp [hj]; omega
  ·simp [hj]
theorem sendsF_due :∀ (l:List Nat) {c:Cl},0≤c.clock→∀ j,(j∈l∨dueF c j=false)→dueF (sendsF c l) j=false
 | [],c,_,j,h=>by
  rcases h with h|h
  ·cases h
  ·exact h
 | i::l,c,h0,j,h=>by
  show dueF (sendsF (if dueF c i=true then sendF c i else c) l) j=false
  have hc:0≤(if dueF c i=true then sendF c i else c).clock:=by
   split
   ·rw [(sendF_sent c i).2]; exact h0
   ·exact h0
  refine sendsF_due l hc j ?_
  rcases h with h|h
  ·rcases List.mem_cons.1 h with rfl|h
   ·right
    split
    ·rw [due_send h0,if_pos M]
    ·rename_i hn; simpa using hn
   ·exact .inl h
  ·right
   split
   ·rw [due_send h0]; split
    ·rfl
    ·exact h
   ·exact h
theorem flushF_sent {c:Cl} (h0:0≤c.clock):SentOk (flushF c):=by
 intro i hi
 obtain ⟨o,r,e,he⟩:=flushF_same c
 have:firstF (flushF c).reqs=firstF c.reqs:=by rw [e]; exact firstF_core he
 rw [this] at hi
 exact sendsF_due _ h0 i (.inl hi)
theorem sendsF_none :∀ (l:List Nat) {c:Cl},(∀ i∈l,dueF c i=false)→sendsF c l=c
 | [],c,_=>rfl
 | i::l,c,h=>by
  show sendsF (if dueF c i=true then sendF c i else c) l=c
  rw [if_neg (by rw [h i (by simp)]; simp)]
  exact sendsF_none l fun j hj=>h j (by simp [hj])
theorem flushF_none {c:Cl} (h:SentOk c):flushF c=c:=sendsF_none _ h
def AtRest (c:Cl):Prop:=c.out=[]∧Fine c∧SentOk c∧Any c
theorem Fine.outs {c:Cl} (h:Fine c) (o:List Pkt) (a:Ans) (b:Bool):Fine { c with out:=o,ans:=a,answered:=b }:=⟨h.guess,h.reqs,h.rngs,h.parts,h.asked,h.doubts,h.coord,h.nmem⟩
theorem end_ok {c:Cl} (hf:Fine c) (h:Work c∨Said c∨Rest c):AtRest (doneF c)∧(doneF c).busy=c.busy∧(endF c).answered=c.answered∧(endF c).ans=c.ans:=by
 have hs:=flushF_same c
 have hfl:=flushF_sent (c:=c) hf.nmem.2
 have hff:=hf.same hs
 have hp:=same_pres hs
 unfold doneF endF
 obtain ⟨o,r,e,he⟩:=hs
 rw [e] at hfl hff hp ⊢
 refine ⟨⟨rfl,hff.outs _ _ _,hfl,?_⟩,rfl,rfl,rfl⟩
 rcases h with h|h|h
 ·have:=hp.1 h
  exact .inl ⟨this.1,⟨rfl,rfl⟩,this.2.2⟩
 ·have:=hp.2.1 h
  exact .inr ⟨this.1,⟨rfl,rfl⟩,this.2.2⟩
 ·have:=hp.2.2 h
  exact .inr ⟨this.1,⟨rfl,rfl⟩,this.2.2⟩
def Between (c c':Cl) (r:Rsp):Prop:=AtRest c'∧(r.answered=true→c.busy=true∧c'.busy=false)∧(r.answered=false→c'.busy=c.busy∧r.ans=ans0)
theorem end_between {c0 c c1:Cl} (hb:c1.busy=c0.busy) (h:HeardOk c1 c):Between c0 (doneF c) (endF c):=by
 obtain ⟨hf,h⟩:=h
 rcases h with ⟨h1,h2|h2⟩|⟨h1,h2⟩
 ·obtain ⟨a,b,d,e⟩:=end_ok hf (.inl h2)
  refine ⟨a,fun h=>?_,fun h=>?_⟩
  ·rw [d,h2.2.1.1] at h; cases h
  ·rw [b,e,h2.1,← hb,h1]; exact ⟨rfl,h2.2.1.2⟩
 ·obtain ⟨a,b,d,e⟩:=end_ok hf (.inr (.inl h2))
  refine ⟨a,fun h=>?_,fun h=>?_⟩
  ·rw [b,← hb]; exact ⟨h1,h2.1⟩
  ·rw [d,h2.2.1] at h; cases h
 ·obtain ⟨a,b,d,e⟩:=end_ok hf (.inr (.inr h2))
  refine ⟨a,fun h=>?_,fun h=>?_⟩
  ·rw [d,h2.2.1.1] at h; cases h
  ·rw [b,e,h2.1,← hb,h1]; exact ⟨rfl,h2.2.1.2⟩
theorem take_ok {c:Cl} (h:AtRest c) (src dst:Int) (b:List Bt):Between c (takeF c src dst b).1 (takeF c src dst b).2:=by
 unfold takeF
 simp only
 split
 ·exact ⟨h,(fun e=>by cases e),fun _=>⟨rfl,rfl⟩⟩
 ·refine end_between (c1:=c) M ?_
  split
  ·exact toldF_ok h.2.2.2 h.2.1 _
  ·split
   ·rename_i hc
    rcases h.2.2.2 with hw|hr
    ·exact stepF_ok hw h.2.1 hc.1 _
    ·rw [hr.2.2.2.2.1] at hc; cases hc.1
   ·exact .of_any h.2.2.2 M h.2.1
theorem again_ok :∀ (l:List Nat) {c:Cl},Any c→Fine c→Any (l.foldl againF c)∧Fine (l.foldl againF c)∧(l.foldl againF c).busy=c.busy
 | [],c,h,hf=>⟨h,hf,rfl⟩
 | i::l,c,h,hf=>by
  have h1:Any (againF c i)∧Fine (againF c i)∧(againF c i).busy=c.busy:=by
   unfold againF
   split
   ·exact ⟨h,hf,rfl⟩
   ·rename_i r hr
    split
    ·have:=any_same (any_guess h r.group (guessAt c r.group % c.nodes+1)) (sendF_same _ i)
     exact ⟨this.1,(hf.guessed _ _).same (sendF_same _ i),this.2⟩
    ·exact ⟨h,hf,rfl⟩
  obtain ⟨a,b,d⟩:=again_ok l h1.1 h1.2.1
  exact ⟨a,b,d.trans h1.2.2⟩
def tickedF (c:Cl):Cl:={ c with clock:=c.clock+1 }
theorem tick_ok {c:Cl} (h:AtRest c):Between c (tickF c).1 (tickF c).2:=by
 unfold tickF
 simp only
 have hf0:Fine (tickedF c):=⟨h.2.1.guess,h.2.1.reqs,h.2.1.rngs,h.2.1.parts,h.2.1.asked,h.2.1.doubts,h.2.1.coord,h.2.1.nmem.1,by have:=h.2.1.nmem.2; unfold tickedF; simp only; omega⟩
 have ha0:Any (tickedF c):=h.2.2.2
 obtain ⟨a1,f1,b1⟩:=again_ok (firstF c.reqs) ha0 hf0
 have b1':((firstF c.reqs).foldl againF (tickedF c)).busy=c.busy:=b1
 show Between c (doneF _) (endF _)
 have key:∀ c1:Cl,Any c1→Fine c1→c1.busy=c.busy→∀ c2,c2=(if c1.coord.isSome=true∧c1.own=false∧20≤c1.clock - c1.started then startF c1 else c1) →
   ∀ c3,c3=(if c2.busy=true∧60≤c2.clock - c2.since then overF c2 else c2)→Between c (doneF c3) (endF c3):=by
  rintro c1 ha hf hb c2 rfl c3 rfl
  have h2:∀ c2,c2=(if c1.coord.isSome=true∧c1.own=false∧20≤c1.clock - c1.started then startF c1 else c1)→Any c2∧Fine c2∧c2.busy=c1.busy:=by
   rintro c2 rfl
   split
   ·rename_i hc
    rcases ha with hw|hr
    ·obtain ⟨x,y⟩:=startF_work hw hf hc.1
     exact ⟨.inl x,y,by rw [x.1,hw.1]⟩
    ·rw [hr.2.2.2.2.1] at hc; cases hc.1
   ·exact ⟨ha,hf,rfl⟩
  have:=h2 _ rfl
  generalize (if c1.coord.isSome=true∧c1.own=false∧20≤c1.clock - c1.started then startF c1 else c1)=c2 at this
  obtain ⟨x,y,z⟩:=this
  refine end_between (c1:=c2) (z.trans hb) ?_
  split
  ·rename_i hc
   rcases x with hw|hr
   ·obtain ⟨p,q⟩:=overF_said y hw
    exact ⟨q,.inl ⟨hw.1,.inr p⟩⟩
   ·rw [hr.1] at hc; cases hc.1
  ·exact .of_any x M y
 exact key _ a1 f1 b1' _ rfl _ rfl
def refused (e:Int):Prop:=e=13∨e=12∨e=17∨e=22∨e=20∨e=21∨e=27∨e=28
def Called (c c':Cl):Prop:=Fine c'∧(Work c'∨(Said c'∧(refused c'.ans.code→c'.reqs=c.reqs∧c'.out=c.out∧c'.clock=c.clock)))
theorem Called.say {c:Cl} (hb:Base c) (hf:Fine c) (a:Ans):Called c (sayF c a):=⟨hf.say a,.inr ⟨sayF_said a hb.2.2.1 hb.2.2.2.2,fun _=>⟨rfl,rfl,rfl⟩⟩⟩
theorem Called.work {c c':Cl} (h:Work c'∧Fine c'):Called c c':=⟨h.2,.inl h.1⟩
theorem Called.of_same {c c1 c':Cl} (h:Called c1 c') (e:c1.reqs=c.reqs∧c1.out=c.out∧c1.clock=c.clock):Called c c':=by
 obtain ⟨a,b⟩:=h
 refine ⟨a,b.imp id fun ⟨x,y⟩=>⟨x,fun r=>?_⟩⟩
 obtain ⟨p,q,s⟩:=y r
 exact ⟨p.trans e.1,q.trans e.2.1,s.trans e.2.2⟩
theorem Fine.opened {c:Cl} (h:Fine c) (ho:c.own=false) (b:Bool):Fine { openedF c with opn:=b }:=⟨h.guess,h.reqs,h.rngs,by simp [openedF,noT],by simp [openedF,noT],h.doubts,(fun _ e=>by simp only [openedF] at e; rw [ho] at e; cases e),h.nmem⟩
theorem doesF_ok {c:Cl} (hb:Base c) (ho:c.own=false) (hf:Fine c) (x:Cal) (hk:c.kind=x.kind) (h1:1≤x.kind∧x.kind≤11) (d:List Bt):Called c (doesF c x d):=by
 have hcode:∀ e,Called c (codeF c e):=fun e=>.say hb hf _
 unfold doesF
 split
 ·unfold beginF
  split
  ·exact hcode _
  ·split
   ·exact hcode _
   ·exact Called.of_same (Called.say (c:={ openedF c with opn:=true }) hb (hf.opened ho true) _) ⟨rfl,rfl,rfl⟩
 split
 ·rename_i h2
  unfold readingF
  split
  ·exact hcode _
  ·rename_i hopn
   split
   ·exact hcode _
   ·split
    ·exact .say hb hf _
    ·split
     ·exact .say hb hf _
     ·split
      ·exact hcode _
      ·exact .work (mappedF_work hf hb ⟨hk.trans h2,by simpa using hopn,ho⟩)
 split
 ·unfold writingF
  split
  ·exact hcode _
  ·exact Called.of_same (Called.say (c:={ c with cur:={ c.cur with writes:=(writeF c.cur.writes x.block d).1 } }) hb ⟨hf.guess,hf.reqs,hf.rngs,hf.parts,hf.asked,hf.doubts,hf.coord,hf.nmem⟩ _) ⟨rfl,rfl,rfl⟩
 split
 ·rename_i h4
  unfold commitF
  split
  ·exact hcode _
  ·rename_i hopn
   split
   ·exact Called.of_same (Called.say (c:={ c with opn:=false }) hb (hf.opn false) _) ⟨rfl,rfl,rfl⟩
   ·exact .work (mappedF_work hf hb ⟨hk.trans h4,by simpa using hopn,ho⟩)
 split
 ·unfold abortF
  split
  ·exact hcode _
  ·have h2:=tidyF_adds c c.cur.id (groupsF c.cur) 2 hf.groups
   have hb2:=hb.adds h2
   have hf2:=hf.adds h2
   generalize tidyF c c.cur.id (groupsF c.cur) 2=c2 at hb2 hf2
   refine ⟨(hf2.opn false).say _,.inr ⟨sayF_said _ hb2.2.2.1 hb2.2.2.2.2,fun hr=>?_⟩⟩
   exact absurd hr (by show ¬ refused 0; unfold refused; decide)
 split
 ·rename_i h6
  unfold barrierF
  split
  ·exact hcode _
  ·split
   ·exact hcode _
   ·rename_i d2 l hdl
    exact .work (resolveF_work hf hb ho (by rw [hdl]; simp) (.inl (hk.trans h6)))
 split
 ·rename_i h7
  unfold snapshotF
  split
  ·exact hcode _
  ·rename_i hopn
   split
   ·exact hcode _
   ·split
    ·exact hcode _
    ·simp only
     refine .work (mappedF_work (c:={ openedF c with cur:={ (openedF c).cur with slo:=_,shi:=_ },own:=true }) ⟨hf.guess,hf.reqs,hf.rngs,by simp [openedF,noT],by simp [openedF,noT],hf.doubts,fun e _=>?_,hf.nmem⟩ hb ⟨hk.trans h7,by show c.opn=false; simpa using hopn,rfl⟩)
     rw [show (openedF c).coord=c.coord from rfl,hb.2.2.2.2] at e; cases e
 split
 ·rename_i h8
  unfold readSnapF
  split
  ·exact hcode _
  ·split
   ·exact hcode _
   ·exact .work (mappedF_work hf hb ⟨hk.trans h8,ho⟩)
 split
 ·rename_i h9
  unfold statusF
  split
  ·exact hcode _
  ·split
   ·exact hcode _
   ·rename_i d2 hd2
    exact .work (resolveF_work hf hb ho (List.mem_of_find?_eq_some hd2) (.inr (hk.trans h9)))
 split
 ·rename_i h10
  unfold moveF
  split
  ·exact hcode _
  ·split
   ·exact hcode _
   ·rename_i hck
    split
    ·exact hcode _
    ·simp only [ne_eq,Decidable.not_not] at hck
     exact .work ⟨ask_work (h:=.plan x) hb ho _ _ _ (hk.trans h10),hf.ask _ _ _ (by decide) (planned_grp x hck) (fun h=>by cases h)⟩
 ·unfold memberF
  split
  ·exact hcode _
  ·rename_i hg
   have hgr:grp x.group:=by have:=hf.nmem.1; unfold grp; omega
   split
   ·exact hcode _
   ·split
    ·exact hcode _
    ·exact .work ⟨ask_work (h:=.change x) hb ho _ _ _ (by show c.kind=11; omega),hf.ask _ _ _ (grp_nat hgr) hgr (fun h=>by cases h)⟩
theorem call_ok {c:Cl} (h:AtRest c) (x:Cal) (d:List Bt):AtRest (callF c x d).1 ∧
  (c.busy=true→(callF c x d).1.busy=true∧(callF c x d).2=⟨[],⟨11,0,[]⟩,true⟩) ∧
  (c.busy=false→(callF c x d).2.answered=!(callF c x d).1.busy∧((callF c x d).2.answered=true→refused (callF c x d).2.ans.code→(callF c x d).2.out=[])):=by
 unfold callF
 split
 ·rename_i hb; exact ⟨h,fun _=>⟨hb,rfl⟩,fun e=>by rw [hb] at e; cases e⟩
 ·rename_i hb
  have hb':c.busy=false:=by simpa using hb
  split
  ·exact ⟨h,fun e=>absurd e hb,fun _=>⟨by simp [hb'],fun _ _=>rfl⟩⟩
  ·rename_i hk
   have hr:Rest c:=by
    rcases h.2.2.2 with hw|hr
    ·exact absurd hw.1 hb
    ·exact hr
   have hd:=doesF_ok (c:={ c with busy:=true,kind:=x.kind,since:=c.clock }) ⟨rfl,hr.2.1,hr.2.2.1,hr.2.2.2.1,hr.2.2.2.2.1⟩ hr.2.2.2.2.2 ⟨h.2.1.guess,h.2.1.reqs,h.2.1.rngs,h.2.1.parts,h.2.1.asked,h.2.1.doubts,h.2.1.coord,h.2.1.nmem⟩ x M (by omega) d
   simp only
   generalize doesF { c with busy:=true,kind:=x.kind,since:=c.clock } x d=c1 at hd
   obtain ⟨hf1,hw|⟨hs,href⟩⟩:=hd
   ·obtain ⟨p,q,s,t⟩:=end_ok hf1 (.inl hw)
    refine ⟨p,fun e=>absurd e hb,fun _=>⟨by rw [s,q,hw.2.1.1,hw.1]; rfl,fun e=>?_⟩⟩
    rw [s,hw.2.1.1] at e; cases e
   ·obtain ⟨p,q,s,t⟩:=end_ok hf1 (.inr (.inl hs))
    refine ⟨p,fun e=>absurd e hb,fun _=>⟨by rw [s,q,hs.2.1,hs.1]; rfl,fun _ hrf=>?_⟩⟩
    rw [t] at hrf
    obtain ⟨e1,e2,e3⟩:=href hrf
    have hso:SentOk c1:=by
     intro i hi
     rw [e1] at hi
     have:=h.2.2.1 i hi
     unfold dueF at this ⊢
     rw [e1,e3]; exact this
    show (flushF c1).out=[]
    rw [flushF_none hso,e2]; exact h.1
set_option maxHeartbeats 4000000
set_option maxRecDepth 4000
set_option synthInstance.maxHeartbeats 400000
set_option synthInstance.maxSize 100000
attribute [local irreducible] Hold HoldL HoldW
theorem ev_append_zeros_nil {P:Program} {w0:World} {L:Hp} {g:Env} {t tn e:TypeId} [hu:Und P t (.slice e)] [hun:Und P tn (.int .i64)] {sz by':Nat} {z:Value} [hi:Inf P e sz by' z] {x y:Operand} {k:Nat}
  (hx:ev g x=some (.slice none 0 0)) (hy:ev g y=some (.int .i64 (k:Int))) (hk:0<k)
  (hsz:(sz==0)=false) (hzs:(z.cells.size==sz)=true) (hby:(by'==0)=false) (hb:k*by'≤140737488355328) :
  EV P w0 L g (.call { callee:=.builtin .append,args:=#[x,y],argTypes:=#[t,tn] }) fun u L'=>∃ (b2 cap2:Nat) (spare:List Value),u=.slice (some ⟨b2,0,none⟩) k cap2∧k≤cap2∧cap2≤maxLen∧spare.length=(cap2 - k)*sz ∧
   L'=pt b2 (.cells ((List.replicate k z.cells.toList).flatten++spare).toArray e (0,0))+L:=by
 intro op a w m ho ha hst
 obtain ⟨i,i1,i2,i3,i4⟩:=hi.out
 have hby':1≤by':=by
   have:by'≠0:=by simpa using hby
   omega
 have hsz':1≤sz:=by
   have:sz≠0:=by simpa using hsz
   omega
 have hzs':z.cells.size=sz:=by simpa using hzs
 have hlen:k≤140737488355328:=Nat.le_trans (Nat.le_mul_of_pos_right _ hby') hb
 have hfc:(Builtin.firstCells i.size 0 (.slice none 0 0)).run P w.drew=.ok ([]:List Value).toArray w.drew:=by
  simp [Builtin.firstCells]
 have hfits:Builtin.nextslicecap (0+k) 0*by'≤281474976710656:=growslice_fits (by omega) (by simpa using hb)
 have hrun:=Lib.run_append_grow_zeros (P:=P) w t tn op.type e i z .i64 .i64 hu.out hun.out i1 i4 none 0 0 [] hfc k hk (by rw [i2]; omega) (by omega) (by omega)
  (by rw [i3]; exact Nat.le_trans hb (by omega)) (by rw [i3]; exact hfits)
 refine ⟨_,w.drew.alloc (.cells (([]:List Value).toArray++Builtin.zeroCells z.cells k++Builtin.zeroCells z.cells (grownCap w (0+k) 0 e - (0+k))) e),_,.inl ?_,⟨w.heap.size,grownCap w (0+k) 0 e,(Builtin.zeroCells z.cells (grownCap w (0+k) 0 e - (0+k))).toList,by rw [Nat.zero_add],by have:=grownCap_ge w (0+k) 0 e; omega,grownCap_le_maxLen w _ _ _ (by unfold maxLen; omega),?_,rfl⟩,?_⟩
 ·unfold execOp
  simp only [ho,resolve,invoke,builtin,ha.ev hx,ha.ev hy,List.map_toArray,List.map_cons,List.map_nil,pure_bind,Sem.run_bind,hrun,Result.andThen_ok,Sem.run_pure]
  simp only [Nat.zero_add]
 ·simp only [Array.length_toList,size_zeroCells,hzs',Nat.zero_add]
 ·have e1:((List.replicate k z.cells.toList).flatten++(Builtin.zeroCells z.cells (grownCap w (0+k) 0 e - (0+k))).toList).toArray=([]:List Value).toArray++Builtin.zeroCells z.cells k++Builtin.zeroCells z.cells (grownCap w (0+k) 0 e - (0+k)):=by
   apply Array.ext'
   simp [zeroCells_eq]
  rw [e1]
  exact hst.drew.alloc _
theorem growI_spec (w0:World) (k:Nat) (hk:k≤1000000000):Spec Tryz.prog w0 281 [.slice none 0 0,.int .i64 (k:Int)] 0 (fun r h'=>OwL w0 0 ([]:List Int) r h'):=by
 refine zN Tryz.func281 M Tryz.ntmps281 Tryz.results281 M fun fr=>?_
 refine zaC ?_
 refine L_no M M (pv_lss M M) (by omega) ?_
 refine zaV ?_
 refine yG M M (pv_cap M) ?_
 repeat (first|refine zF ?_|refine zB ?_|refine zE ?_|refine zK M M M ?_|refine L_len M M M ?_|refine L_sub M M (by omega) (by omega) M M ?_)
 rw [show (k:Int) - (((0:Nat):Int) - ((0:Nat):Int))=k by omega]
 by_cases h0:k=0
 ·subst h0
  refine L_no M M (pv_gtr M M) (by omega) ?_
  refine zbC ?_
  exact ⟨[_],0,_,⟨rfl,trivial⟩,OwL.nil _ _,yJ.out⟩
 ·refine L_yes M M (pv_gtr M M) (by omega) ?_
  refine zaU ?_
  refine yG M M (pv_cap M) ?_
  skip
  refine yG M M (pv_slice_h (m:=0) M M (by omega)) ?_
  repeat (refine zK M M M ?_)
  refine L_eff M M (ev_append_zeros_nil M M (by omega) M M M (by omega)) ?_
  rintro _ _ ⟨b2,cap2,spare,rfl,hc1,hc2,hc3,rfl⟩
  refine zcF ?_
  refine yG M M (pv_slice_h (m:=0) M M (by omega)) ?_
  refine zbE ?_
  refine ⟨[_],pt b2 (.cells ((List.replicate k (Value.int .i64 0 |>.cells.toList)).flatten++spare).toArray 3 (0,0)),_,⟨rfl,trivial⟩,?_,yJ.out⟩
  refine ⟨[],?_,trivial⟩
  have hz:((List.replicate k (Value.int .i64 0 |>.cells.toList)).flatten).length=k:=by rw [flat_reps]; simp [Value.cells]
  have hrow:=isRow_block (E:=3) (size:=1) (xs:=[]) (b:=b2) (cap:=cap2) (spare:=(List.replicate k (Value.int .i64 0 |>.cells.toList)).flatten++spare) (by simp) (by simp) hc2 (by rw [List.length_append,hz,hc3,List.length_nil]; omega)
  exact hrow
theorem zeN {G G' : Prop} (h : G') (f : Zh G'→G:=by intro h; (repeat (first|refine zF ?_|refine zR ?_|refine zB ?_|refine zE ?_|refine zK M M M ?_|refine L_ld M M M M M ?_|refine L_len M M M ?_|refine zP ?_|refine zJ M ?_|refine L_add M M (by omega) (by omega) M M ?_|refine L_idx M M (by omega) M M ?_)); exact h.o) : G:=f ⟨h⟩
theorem zeO {G G' : Prop} (h : G') (f : Zh G'→G:=by intro h; (repeat (first|refine zF ?_|refine zR ?_|refine zB ?_|refine zE ?_|refine zK M M M ?_|refine L_ld M M M M M ?_|refine zP ?_|refine zJ M ?_|refine L_idx M M (by omega) M M ?_)); exact h.o) : G:=f ⟨h⟩
theorem concat2_spec (w0:World) (X:Hp) (bs:Nat) (v1 v2:Value) (l1 l2:List Int) (h1:RdL w0 X v1 l1) (h2:RdL w0 X v2 l2) (hl:l1.length+l2.length≤1000000000) :
  Spec Tryz.prog w0 209 [.slice (some ⟨bs,0,none⟩) 2 2] (X+pt bs (.cells [v1,v2].toArray 61 (0,0))) (fun r h'=>∃ h,OwL w0 0 (l1++l2) r h∧X+h=h'):=by
 obtain ⟨a1,c1,rfl⟩:=h1.shape
 obtain ⟨a2,c2,rfl⟩:=h2.shape
 refine zN Tryz.func209 M Tryz.ntmps209 Tryz.results209 M fun fr=>?_
 refine zaS ?_
 refine hold_count 2 (fun k g L=>∃ (sz:Nat) (R:Hp),g=[(0,.slice (some ⟨bs,0,none⟩) 2 2),(3,.int .i64 (sz:Int)),(9,.slice (some ⟨bs,0,none⟩) 2 2),(10,.int .i64 ((2:Nat):Int)),(11,.int .i64 (k:Int))]∧sz=(if k=0 then 0 else if k=1 then l1.length else l1.length+l2.length) ∧
  L=X+pt bs (.cells [.slice a1 l1.length c1,.slice a2 l2.length c2].toArray 61 (0,0))+fr+R) _ ⟨0,0,rfl,rfl,(yA _).symm⟩ zsb ?_
 rintro k g L hk ⟨sz,R,rfl,hsz,rfl⟩
 refine zaH ?_
 refine yF M M (pv_lss M M) (fun n1=>?_) (fun n1=>?_)
 ·have hk2:k=0∨k=1:=by omega
  rcases hk2 with rfl|rfl
  ·rw [if_pos M] at hsz
   subst hsz
   refine zeN ?_
   refine L_no M M (pv_lss M M) (by omega) ?_
   refine zaJ ?_
   rw [show (((0:Nat):Int)+(l1.length:Int))=((l1.length:Nat):Int) by omega]
   exact ⟨by omega,_,zsb,l1.length,_,rfl,rfl,yJ.out⟩
  ·rw [if_neg (by omega),if_pos M] at hsz
   subst hsz
   refine zeN ?_
   refine L_no M M (pv_lss M M) (by omega) ?_
   refine zaJ ?_
   rw [show ((l1.length:Int)+(l2.length:Int))=((l1.length+l2.length:Nat):Int) by omega]
   exact ⟨by omega,_,zsb,l1.length+l2.length,_,rfl,rfl,yJ.out⟩
 ·obtain rfl:k=2:=by omega
  rw [if_neg (by omega),if_neg (by omega)] at hsz
  subst hsz
  refine zbA ?_
  refine zX M M (zQ M M M) (growI_spec w0 (l1.length+l2.length) hl) ?_
  rintro v0 hg0 ho0
  obtain ⟨a0,c0,rfl⟩:=ho0.shape
  refine zaS ?_
  refine hold_count 2 (fun k g L=>∃ (vo:Value) (ho R:Hp),g=[(6,vo),(25,.slice (some ⟨bs,0,none⟩) 2 2),(26,.int .i64 ((2:Nat):Int)),(27,.int .i64 (k:Int))]∧OwL w0 0 (if k=0 then [] else if k=1 then l1 else l1++l2) vo ho ∧
   L=X+pt bs (.cells [.slice a1 l1.length c1,.slice a2 l2.length c2].toArray 61 (0,0))+ho+fr+R) _ ⟨_,hg0,_,rfl,ho0,yJ.out⟩ zsb ?_
  rintro k g L hk ⟨vo,ho,R2,rfl,hov,rfl⟩
  refine zaH ?_
  refine yF M M (pv_lss M M) (fun n1=>?_) (fun n1=>?_)
  ·have hk2:k=0∨k=1:=by omega
   rcases hk2 with rfl|rfl
   ·rw [if_pos M] at hov
    refine zeO ?_
    refine L_eff M M (ev_appendL (X:=0) (h:=ho) (ns:=l1) M M hov (rdL_ints.1 h1.frame) (rdI_enc.2 M) M M M M M (by simp only [List.length_nil]; omega)) ?_
    rintro v5 _ ⟨h5,ho5,rfl⟩
    refine zaI ?_
    exact ⟨by omega,_,zsb,v5,h5,_,rfl,ho5,yJ.out⟩
   ·rw [if_neg (by omega),if_pos M] at hov
    refine zeO ?_
    refine L_eff M M (ev_appendL (X:=0) (h:=ho) (ns:=l2) M M hov (rdL_ints.1 h2.frame) (rdI_enc.2 M) M M M M M (by omega)) ?_
    rintro v5 _ ⟨h5,ho5,rfl⟩
    refine zaI ?_
    exact ⟨by omega,_,zsb,v5,h5,_,rfl,ho5,yJ.out⟩
  ·obtain rfl:k=2:=by omega
   rw [if_neg (by omega),if_neg (by omega)] at hov
   refine zaK ?_
   exact ⟨[_],X+ho,_,⟨rfl,trivial⟩,⟨ho,hov,rfl⟩,yJ.out⟩
theorem groups_spec (w0:World) (X:Hp) (tb:Nat) (t:Txn) (h:Hp) (H:TxnAt w0 X tb t h) (hl:t.parts.length+t.asked.length≤1000000000) :
  Spec Tryz.prog w0 120 [pB tb] (X+h) (fun r h'=>∃ h2,OwL w0 0 (groupsF t) r h2∧X+h+h2=h'):=by
 obtain ⟨vr,va,vw,ap,cp,hr,ha,hw,rfl,h1,h2,h3,h4⟩:=H
 obtain ⟨aa,ca,rfl⟩:=h2.shape
 refine zN Tryz.func120 M Tryz.ntmps120 Tryz.results120 M fun fr=>?_
 refine zaC ?_
 refine yB [8,9] [0,1,2,3,4,5,6,7,8,9,10] (by kernel_rfl) M (by kernel_rfl) (by kernel_rfl) ?_
 refine zaF ?_
 refine W_eff M M M M (ev_buildSlice (vs:=[_,_]) (cells:=[_,_]) M M M M) (Kept.all _) ?_
 rintro _ _ ⟨bs,rfl,rfl⟩
 refine ⟨zka,?_⟩
 skip
 refine W_call M M M M (zQ M M M) (concat2_spec w0 (X+ha) bs _ _ t.parts t.asked (h4.mono M) (h2.rdh.mono (hadd_comm _ _)) hl) (Kept.all _) ?_
 rintro v1 _ ⟨k1,o1,rfl⟩
 obtain ⟨a1,c1,rfl⟩:=o1.shape
 refine ⟨zka,?_⟩
 refine zaD ?_
 refine zaW ?_
 have hlen:(t.parts++t.asked).length≤1000000000:=by rw [List.length_append]; exact hl
 refine zX M M (zQ M M M) (sort_spec w0 _ _ k1 (owL_ints.1 o1) hlen) ?_
 rintro v2 k2 o2
 refine zaC ?_
 refine zX M M (zQ M M M) (compact_spec w0 _ _ k2 o2 (by rw [sortI_length]; exact hlen)) ?_
 rintro v3 k3 o3
 have o4:OwL w0 0 (groupsF t) v3 k3:=owL_ints.2 o3
 obtain ⟨a3,c3,rfl⟩:=o4.shape
 refine zaE ?_
 exact ⟨[_],X+(txnC tb (.int .i64 t.id::.int .i64 t.age::vr::.slice aa t.asked.length ca::vw::.slice ap t.parts.length cp::.int .i64 t.slo::.int .i64 t.shi::[])+(hr+(ha+hw)))+k3,_,⟨rfl,trivial⟩,⟨k3,o4,rfl⟩,yJ.out⟩
theorem quietsF_snoc (c:Cl) (o:Opn) (l:List Int) (g:Int):quietsF c o (l++[g])=quietF (quietsF c o l) g.toNat o:=by unfold quietsF; rw [List.foldl_append]; rfl
theorem opSz_bare {o:Opn} (hn:NumsIn o) (h1:o.parts=[]) (h2:o.reads=[]) (h3:o.writes=[]) (h4:o.data=[]):OpSz o:=⟨hn,by simp [h1],by simp [h2],by simp [h3],by simp [h4]⟩
theorem Bd.quiets {o:Opn} (ho:OpSz o):∀ (l:List Int) {c:Cl} {n:Nat},Bd n c→n+l.length≤1000000000→Bd (n+l.length) (quietsF c o l)
 | [],c,n,h,_=>h
 | g::l,c,n,h,hn=>by
  rw [List.length_cons] at hn ⊢
  have h1:=h.ask (by omega) g.toNat ho 0 true .quiet
  have h2:=Bd.quiets ho l (c:=quietF c g.toNat o) (n:=n+1) h1 (by omega)
  rw [show n+(l.length+1)=n+1+l.length by omega]
  exact h2
theorem groupsF_len (t:Txn):(groupsF t).length≤t.parts.length+t.asked.length:=by
 unfold groupsF
 refine Nat.le_trans (compI_le _) ?_
 rw [sortI_length,List.length_append]; exact Nat.le_refl _
theorem zbU {G G' : Prop} (h : G') (f : Zh G'→G:=by intro h; (repeat (first|refine zF ?_|refine zB ?_|refine zE ?_|refine zK M M M ?_|refine zY M M M M M ?_|refine L_st M M M (c':=(_::_::_::_::_::_::_::_::_::_::_::_::_::_::_::_::_::_::_::_::_::_::_::_::_::_::_::_::_::_::_::_::_::_::_::_::_::_::[])) M M M M ?_)); exact h.o) : G:=f ⟨h⟩
section
variable (w0:World) (X:Hp) (b tb:Nat) (c:Cl) (S:Hp) (n:Nat)
theorem tidying_spec (hS:CliT w0 X b tb c S) (hB:Bd n c) (id value:Int) (l:List Int) (a:Option Addr) (cp:Nat) (hv:RdL w0 X (.slice a l.length cp) l) (hn:n+l.length≤1000000000) (hg:∀ g∈l,grp g) (hid:I64 id) (hval:I64 value) :
  Spec Tryz.prog w0 119 [pB b,.int .i64 id,.slice a l.length cp,.int .i64 value] (X+S) (fun r h'=>Now w0 X b tb (tidyF c id l value) h'):=by
 have hz:I64 0:=by unfold I64; omega
 have hosz:OpSz (endOp id value):=opSz_bare ⟨hz,hz,hid,hz,hz,hz,hz,hz,hz,hval,hz,hz⟩ rfl M M M
 obtain ⟨⟨vmem,vr0,vsets,vmr,vg,ve,vd,vrq,vop,vow,vw,vco,vou,van⟩,ps,hG,hE,hD,hR,hT,hK,hO,P,rfl⟩:=hS
 obtain ⟨eb,hve,hem⟩:=P.ended
 simp only at hve
 subst hve
 refine zN Tryz.func119 M Tryz.ntmps119 Tryz.results119 M fun fr=>?_
 refine zcG ?_
 refine L_eff M M (ev_mapSet (ρ:=keyI) M M M hem) ?_
 rintro _ _ ⟨hE2,hem2,rfl⟩
 have hem2:MapAt Tryz.prog eb (updA (vI c.ended) id (.int .i64 value)) hE2:=hem2
 rw [updA_vI] at hem2
 have hP:Parts w0 X b { c with ended:=updA c.ended id value } ⟨vmem,vr0,vsets,vmr,vg,.map (some eb),vd,vrq,vop,vow,vw,vco,vou,van⟩ tb ps hG hE2 hD hR hT hK hO :=
  Parts.mk P.mem P.rngs0 P.sets P.mr P.guess ⟨eb,rfl,hem2⟩ P.dbts P.reqs P.opn P.own P.txn P.waits P.coord P.out P.ansd
 have hB2:Bd n { c with ended:=updA c.ended id value }:=⟨hB.seq,hB.clock,hB.reqs,hB.ops,hB.out,hB.id⟩
 have hS0:=(⟨_,ps,hG,hE2,hD,hR,hT,hK,hO,hP,rfl⟩:CliT w0 X b tb { c with ended:=updA c.ended id value } _)
 refine zaS ?_
 refine hold_count l.length (fun k g L=>∃ (S' R:Hp),g=[(0,pB b),(1,.int .i64 id),(3,.int .i64 value),(16,.slice a l.length cp),(17,.int .i64 l.length),(18,.int .i64 k)]∧CliT w0 X b tb (quietsF { c with ended:=updA c.ended id value } (endOp id value) (l.take k)) S'∧L=X+S'+fr+R) _
  ⟨_,_,rfl,hS0,yJ.out⟩ zsb ?_
 rintro k g L hk ⟨S',R,rfl,hS',rfl⟩
 refine zaH ?_
 refine yF M M (pv_lss M M) (fun n1=>?_) (fun n1=>?_)
 ·have hx:k<l.length:=by omega
  obtain ⟨bq,oq,rfl,e,rfl,hat⟩:=hv.at hx
  have hgk:=hg _ (List.getElem_mem hx)
  have hBk:=Bd.quiets hosz (l.take k) hB2 (by rw [List.length_take]; omega)
  have hq:=quiet_spec w0 X b tb _ S' _ hS' hBk (by rw [List.length_take]; omega) (l[k]).toNat (endOp id value) (cellsO (endOp id value) (.slice none 0 0) (.slice none 0 0) (.slice none 0 0) (.slice none 0 0)) ⟨none,0,none,0,none,0,none,0,rfl,RdL.nil _ _ _,RdL.nil _ _ _,RdL.nil _ _ _,RdL.nil _ _ _⟩
  rw [Int.toNat_of_nonneg hgk.1] at hq
  repeat (first|refine zF ?_|refine zR ?_|refine zB ?_|refine zE ?_|refine zK M M M ?_|refine zP ?_|refine zJ M ?_|refine L_idx M M (by omega) M M ?_|refine L_at M (by assumption) M M M M ?_|refine L_build (vs:=[_,_,_]) (cells:=[_,_,_,_,_,_,_,_,_,_,_,_,_,_,_,_,_]) M M M M ?_)
  refine zX M M (zQ M M M) hq ?_
  rintro _ _ ⟨S2,hS2,rfl⟩
  refine zaI ?_
  exact ⟨hx,_,zsb,S2,_,rfl,by rw [List.take_succ_eq_append_getElem hx,quietsF_snoc]; exact hS2,yJ.out⟩
 ·obtain rfl:k=l.length:=by omega
  rw [List.take_length] at hS'
  refine zbT ?_
  exact ⟨[],_,_,trivial,⟨S',hS',rfl⟩,yJ.out⟩
theorem losing_spec (hS:CliT w0 X b tb c S) (hB:Bd n c) (hF:Fine c) (hn:n+c.cur.parts.length+c.cur.asked.length+10≤1000000000) (ho:c.opn=true) (hid:I64 c.cur.id) (e:Int) :
  Spec Tryz.prog w0 168 [pB b,.int .i64 e] (X+S) (fun r h'=>After w0 X b tb (lostF c e) h'):=by
 have hz:I64 2:=by unfold I64; omega
 have had:Adds c (if e=26 then turnF c else c):=by split<;>first|exact turnF_adds c|exact Adds.refl c
 have hkp:=adds_keep had
 have hF1:=hF.adds had
 have hB1:Bd (n+1) (if e=26 then turnF c else c):=by
  split
  ·unfold turnF
   split
   ·exact hB.mono (by omega)
   ·exact Bd.ask (c:={ c with stale:=true }) ⟨hB.seq,hB.clock,hB.reqs,hB.ops,hB.out,hB.id⟩ (by omega) 0 (o:=op0 8) (opSz_bare (by unfold NumsIn I64; simp [op0]) M M M M) 0 true .look
  ·exact hB.mono (by omega)
 have hturn:=turn_spec w0 X b tb c S n hS hB (by omega)
 unfold lostF
 simp only
 refine zN Tryz.func168 M Tryz.ntmps168 Tryz.results168 M fun fr=>?_
 refine zaW ?_
 refine yG M M (pv_eql M M) ?_
 repeat (refine zE ?_)
 refine hold_join (fun g' L'=>∃ (E S1 R:Hp),Sub g' [(0,pB b)]∧CliT w0 (X+E) b tb (if e=26 then turnF c else c) S1∧L'=X+E+S1+fr+R) ?_ ?_
 ·refine hold_cond_d M (fun h=>?_) (fun h=>?_)
  ·refine zbQ ?_
   refine zX M M (zQ M M M) hturn ?_
   rintro _ _ ⟨E,S1,h1,rfl⟩
   repeat (refine zE ?_)
   exact ⟨E,S1,0,zsb,by rw [if_pos h]; exact h1,by rw [yA]⟩
  ·repeat (refine zP ?_)
   exact ⟨0,S,0,zsb,by rw [if_neg h,yA]; exact hS,by rw [yA,yA]⟩
 ·rintro g' _ ⟨E,S1,R,hsub,hS1,rfl⟩
  refine hold_env hsub ?_
  clear hsub g' hturn hS
  generalize (if e=26 then turnF c else c)=c1 at *
  have hopn:c1.opn=true:=by rw [hkp.2.2.2.2.1,ho]
  have hcur:c1.cur=c.cur:=hkp.2.2.2.2.2.2.1
  obtain ⟨⟨vmem,vr0,vsets,vmr,vg,ve,vd,vrq,vop,vow,vw,vco,vou,van⟩,ps,hG,hE,hD,hR,hT,hK,hO,P,rfl⟩:=id hS1
  have hvo:=P.opn
  rw [hopn] at hvo
  simp only [ptrIf,cond_true] at hvo
  subst hvo
  have hT2:TxnAt w0 (X+E) tb c1.cur hT:=by
   rcases P.txn with h|h
   ·exact h
   ·rw [h.1] at hopn; cases hopn
  have hgs:=groups_spec w0 (X+E) tb c1.cur hT hT2 (by rw [hcur]; omega)
  obtain ⟨vr,va,vw',ap,cp,hr,ha,hw,rfl,k1,k2,k3,k4⟩:=id hT2
  repeat (refine zF ?_)
  refine yB [12,13] [0,1,2,3,4,5,6,7,8,9,10,11,12,13] (by kernel_rfl) M (by kernel_rfl) (by kernel_rfl) ?_
  refine zaF ?_
  have hgl:=groupsF_len c1.cur
  rw [hcur] at hgl
  refine W_call M M M M (zQ M M M) hgs (Kept.all _) ?_
  rintro _ _ ⟨k5,o5,rfl⟩
  obtain ⟨a5,c5,rfl⟩:=o5.shape
  refine ⟨zka,?_⟩
  skip
  have htd:=tidying_spec w0 (X+E+k5) b tb c1 _ (n+1) (hS1.mono M) hB1 c1.cur.id 2 (groupsF c1.cur) a5 c5 (o5.rd (X:=0) (R:=X+E)) (by rw [hcur]; omega) hF1.groups (by rw [hcur]; exact hid) hz
  refine W_call M M M M (zQ M M M) htd (.drop (by kernel_rfl) (.drop (by kernel_rfl) (.drop (by kernel_rfl) .nil))) ?_
  rintro _ _ ⟨S2,h2,rfl⟩
  refine ⟨trivial,?_⟩
  generalize tidyF c1 c1.cur.id (groupsF c1.cur) 2=c2 at *
  obtain ⟨⟨um,ur0,us,umr,ug,ue,ud,urq,uop,uow,uw,uco,uou,uan⟩,qs,jG,jE,jD,jR,jT,jK,jO,P2,rfl⟩:=h2
  repeat (refine yI ?_)
  refine zbU ?_
  have hP3:Parts w0 (X+E+k5) b { c2 with opn:=false } ⟨um,ur0,us,umr,ug,ue,ud,urq,.pointer none,uow,uw,uco,uou,uan⟩ tb qs jG jE jD jR jT jK jO :=
   Parts.mk P2.mem P2.rngs0 P2.sets P2.mr P2.guess P2.ended P2.dbts P2.reqs M P2.own (P2.txn.imp id fun h=>⟨rfl,h.2⟩) P2.waits P2.coord P2.out P2.ansd
  refine zX M M (zQ M M M) (coding_spec w0 (X+E+k5) b tb { c2 with opn:=false } _ ⟨_,qs,jG,jE,jD,jR,jT,jK,jO,hP3,rfl⟩ 24) ?_
  rintro _ _ hA
  repeat (refine zE ?_)
  exact ⟨[],_,_,trivial,hA.after.trans.trans,yJ.out⟩
end
section
variable (w0:World) (X:Hp) (b tb:Nat) (c:Cl) (S:Hp) (n:Nat)
theorem CliL.after {w0:World} {X E S:Hp} {b tb p:Nat} {c:Cl} (H:CliL w0 (X+E) b tb c p S):After w0 X b tb c (X+E+S):=⟨E,S,H.cli,rfl⟩
theorem asks_spec (hS:CliT w0 X b tb c S) (hB:Bd n c) (hn:n≤1000000000) (g:Int) (hg:grp g) (o:Opn) (oe:List Value) (ho:Rep.rd w0 X o oe) (later:Int) (hl:0≤later∧later≤1) (hd:Hrd) (hv:Value) (hh:HeardAt w0 X b tb hd hv) :
  Spec Tryz.prog w0 222 [pB b,.int .i64 g,.agg oe.toArray,.int .i64 later,hv] (X+S) (fun r h'=>∃ p S',r=pB p∧CliL w0 X b tb (askF c g.toNat o later false hd) p S'∧X+S'=h'):=by
 have:=ask_spec w0 X b tb c S hS g.toNat o oe ho later hd hv hh ⟨hB.seq.1,by have:=hB.seq.2; omega⟩ ⟨hB.clock.1,by have:=hB.clock.2; omega⟩ hl (by have:=hB.reqs; omega)
 rwa [Int.toNat_of_nonneg hg.1] at this
theorem rd_bare (o:Opn) (h1:o.parts=[]) (h2:o.reads=[]) (h3:o.writes=[]) (h4:o.data=[]):Rep.rd w0 X o (cellsO o (.slice none 0 0) (.slice none 0 0) (.slice none 0 0) (.slice none 0 0)):=by
 obtain ⟨k1,k2,k3,k4,k5,k6,k7,k8,k9,k10,k11,k12,k13,l1,l2,l3,l4⟩:=o
 simp only at h1 h2 h3 h4
 subst h1 h2 h3 h4
 exact ⟨none,0,none,0,none,0,none,0,rfl,RdL.nil _ _ _,RdL.nil _ _ _,RdL.nil _ _ _,RdL.nil _ _ _⟩
theorem changing_spec (hS:CliT w0 X b tb c S) (hB:Bd n c) (hn:n≤1000000000) (x:Cal) (d:Value) (later:Int) (hl:0≤later∧later≤1) (hg:grp x.group) :
  Spec Tryz.prog w0 164 [pB b,.agg (cellsX x d).toArray,.int .i64 later] (X+S) (fun r h'=>After w0 X b tb (changeF c x later) h'):=by
 refine zN Tryz.func164 M Tryz.ntmps164 Tryz.results164 M fun fr=>?_
 repeat (first|refine zF ?_|refine zB ?_|refine zE ?_|refine zK M M M ?_|refine zY M M M M M ?_|refine L_ld M M M M M ?_|refine L_build (vs:=[_,_,_]) (cells:=[_,_,_,_,_,_,_,_,_,_,_,_,_,_,_,_,_]) M M M M ?_|refine L_box M (c:=[_]) M M M (fun _=>?_)|refine L_box M (c:=[_,_,_,_,_,_,_,_,_,_,_,_,_]) M M M (fun _=>?_)|refine L_clo M M M ?_)
 rename_i b1 b2
 have hS2:CliT w0 (X+(pt b1 (.cells [pB b].toArray 24 (0,0))+pt b2 (.cells (cellsX x d).toArray 41 (0,0)))) b tb c S:=hS.mono M
 have hask:=asks_spec w0 _ b tb c S n hS2 hB hn x.group hg ⟨11,0,0,0,0,0,0,0,0,0,x.value,0,x.node,[],[],[],[]⟩ _ (rd_bare w0 _ _ rfl M M M) later hl (.change x) _ ⟨b1,b2,d,rfl,at_box,at_box⟩
 refine zX M M (zQ M M M) hask ?_
 rintro _ _ ⟨p,S',rfl,hL,rfl⟩
 repeat (refine zE ?_)
 exact ⟨[],_,_,trivial,hL.after,yJ.out⟩
theorem freezing_spec (hS:CliT w0 X b tb c S) (hB:Bd n c) (hn:n≤1000000000) (x:Cal) (d:Value) (ep later:Int) (hl:0≤later∧later≤1) (hg:grp x.src) :
  Spec Tryz.prog w0 163 [pB b,.agg (cellsX x d).toArray,.int .i64 ep,.int .i64 later] (X+S) (fun r h'=>After w0 X b tb (frzF c x ep later) h'):=by
 refine zN Tryz.func163 M Tryz.ntmps163 Tryz.results163 M fun fr=>?_
 repeat (first|refine zF ?_|refine zB ?_|refine zE ?_|refine zK M M M ?_|refine zY M M M M M ?_|refine L_ld M M M M M ?_|refine L_build (vs:=[_,_,_,_]) (cells:=[_,_,_,_,_,_,_,_,_,_,_,_,_,_,_,_,_]) M M M M ?_|refine L_box M (c:=[_]) M M M (fun _=>?_)|refine L_box M (c:=[_,_,_,_,_,_,_,_,_,_,_,_,_]) M M M (fun _=>?_)|refine L_clo M M M ?_)
 rename_i b1 b2 b3
 have hS2:CliT w0 (X+(pt b1 (.cells [pB b].toArray 24 (0,0))+(pt b2 (.cells (cellsX x d).toArray 41 (0,0))+pt b3 (.cells [.int .i64 ep].toArray 3 (0,0))))) b tb c S:=hS.mono M
 have hask:=asks_spec w0 _ b tb c S n hS2 hB hn x.src hg ⟨5,0,0,0,0,ep,x.lo,x.hi,0,0,0,0,0,[],[],[],[]⟩ _ (rd_bare w0 _ _ rfl M M M) later hl (.frz x ep) _ ⟨b1,b2,b3,d,rfl,at_box,at_box,at_box⟩
 refine zX M M (zQ M M M) hask ?_
 rintro _ _ ⟨p,S',rfl,hL,rfl⟩
 repeat (refine zE ?_)
 exact ⟨[],_,_,trivial,hL.after,yJ.out⟩
theorem oking_spec (hS:CliT w0 X b tb c S) (hB:Bd n c) (hn:n≤1000000000) (g:Int) (hg:grp g) (o:Opn) (oe:List Value) (ho:Rep.rd w0 X o oe) (k:Nat) (cap:Array Value) (hd:Hrd)
  (hh:∀ (Y:Hp) (p q:Nat),At w0 (X+Y) p 0 [pB b]→At w0 (X+Y) q 0 [.func (.func k) #[] cap]→HeardAt w0 (X+Y) b tb hd (.func (.func 235) #[] [pB p,pB q].toArray)) :
  Spec Tryz.prog w0 160 [pB b,.int .i64 g,.agg oe.toArray,.func (.func k) #[] cap] (X+S) (fun r h'=>After w0 X b tb (askF c g.toNat o 0 false hd) h'):=by
 have hoo:=id ho
 obtain ⟨a1,c1,a2,c2,a3,c3,a4,c4,rfl,-⟩:=hoo
 refine zN Tryz.func160 M Tryz.ntmps160 Tryz.results160 M fun fr=>?_
 repeat (first|refine zF ?_|refine zB ?_|refine zE ?_|refine zK M M M ?_|refine L_ld M M M M M ?_|refine L_ldA M (vs:=[_,_,_,_,_,_,_,_,_,_,_,_,_,_,_,_,_]) M M M M M ?_|refine L_box M (c:=[_]) M M M (fun _=>?_)|refine L_box M (c:=[_,_,_,_,_,_,_,_,_,_,_,_,_,_,_,_,_]) M M M (fun _=>?_)|refine L_clo M M M ?_)
 rename_i b1 b2 b3
 have hS2:CliT w0 (X+(pt b1 (.cells [pB b].toArray 24 (0,0))+pt b3 (.cells [.func (.func k) #[] cap].toArray 143 (0,0)))) b tb c S:=hS.mono M
 have hask:=asks_spec w0 _ b tb c S n hS2 hB hn g hg o _ (Rep.mono M ho) 0 (by omega) hd _ (hh _ b1 b3 at_box at_box)
 refine zX M M (zQ M M M) hask ?_
 rintro _ _ ⟨p,S',rfl,hL,rfl⟩
 repeat (refine zE ?_)
 exact ⟨[],_,_,trivial,hL.after,yJ.out⟩
end
theorem zeP {G G' : Prop} (h : G') (f : Zh G'→G:=by intro h; (repeat (first|refine zB ?_|refine zE ?_|refine zK M M M ?_|refine zY M M M M M ?_|refine L_ld M M M M M ?_|refine zI M ?_|refine L_at M (by assumption) M M M M ?_)); exact h.o) : G:=f ⟨h⟩
theorem zdN {G G' : Prop} (h : G') (f : Zh G'→G:=by intro h; (repeat (first|refine zB ?_|refine zE ?_|refine zK M M M ?_|refine zJ M ?_|refine L_at M (by assumption) M M M M ?_|refine L_atA M (by assumption) M M M M ?_)); exact h.o) : G:=f ⟨h⟩
theorem zbI {G G' : Prop} (h : G') (f : Zh G'→G:=by intro h; (repeat (first|refine zE ?_|refine zM ?_)); exact h.o) : G:=f ⟨h⟩
section
variable (w0:World) (X:Hp) (b tb:Nat) (c:Cl) (S:Hp) (n:Nat)
theorem installing_spec (hS:CliT w0 X b tb c S) (hB:Bd n c) (hn:n≤1000000000) (x:Cal) (d:Value) (ep:Int) (hg:grp x.dst) (l:List Bt) (ad:Option Addr) (cp:Nat) (hl:RdL w0 X (.slice ad l.length cp) l) :
  Spec Tryz.prog w0 239 [pB b,.agg (cellsX x d).toArray,.int .i64 ep,.slice ad l.length cp] (X+S) (fun r h'=>After w0 X b tb (instF c x ep l) h'):=by
 refine zN Tryz.func239 M Tryz.ntmps239 Tryz.results239 M fun fr=>?_
 repeat (first|refine zF ?_|refine zB ?_|refine zE ?_|refine zK M M M ?_|refine zY M M M M M ?_|refine L_ld M M M M M ?_|refine L_build (vs:=[_,_,_,_,_]) (cells:=[_,_,_,_,_,_,_,_,_,_,_,_,_,_,_,_,_]) M M M M ?_|refine L_box M (c:=[_]) M M M (fun _=>?_)|refine L_box M (c:=[_,_,_,_,_,_,_,_,_,_,_,_,_]) M M M (fun _=>?_)|refine L_clo M M M ?_)
 rename_i b1 b2 b3
 have hS2:CliT w0 (X+(pt b1 (.cells [pB b].toArray 24 (0,0))+(pt b2 (.cells (cellsX x d).toArray 41 (0,0))+pt b3 (.cells [.int .i64 ep].toArray 3 (0,0))))) b tb c S:=hS.mono M
 have ho:Rep.rd w0 (X+(pt b1 (.cells [pB b].toArray 24 (0,0))+(pt b2 (.cells (cellsX x d).toArray 41 (0,0))+pt b3 (.cells [.int .i64 ep].toArray 3 (0,0))))) (⟨6,0,0,0,0,ep,x.lo,x.hi,0,0,0,0,0,[],[],[],l⟩:Opn) [.int .i64 6,.int .i64 0,.int .i64 0,.int .i64 0,.int .i64 0,.int .i64 ep,.int .i64 x.lo,.int .i64 x.hi,.int .i64 0,.int .i64 0,.int .i64 0,.int .i64 0,.int .i64 0,.slice none 0 0,.slice none 0 0,.slice none 0 0,.slice ad l.length cp] :=
  ⟨none,0,none,0,none,0,ad,cp,rfl,RdL.nil _ _ _,RdL.nil _ _ _,RdL.nil _ _ _,hl.mono M⟩
 have hok:=oking_spec w0 _ b tb c S n hS2 hB hn x.dst hg _ _ ho 299 [pB b1,pB b3,pB b2].toArray (.inst x ep) (fun Y p q h1 h2=>⟨p,q,b1,b3,b2,d,rfl,h1,h2,at_box,at_box,at_box⟩)
 refine zX M M (zQ M M M) hok ?_
 rintro _ _ hA
 repeat (refine zE ?_)
 exact ⟨[],_,_,trivial,hA.trans,yJ.out⟩
theorem keeping_spec (hS:CliT w0 X b tb c S) (hB:Bd n c) (hn:n≤1000000000) (hF:Fine c) (hm:c.m.rngs.length≤1000000000) (x:Cal) (d:Value) (later:Int) (hl:0≤later∧later≤1) :
  Spec Tryz.prog w0 157 [pB b,.agg (cellsX x d).toArray,.int .i64 later] (X+S) (fun r h'=>After w0 X b tb (keptF c x later) h'):=by
 have hgr:=findR_grp hF x.block
 obtain ⟨⟨vmem,vr0,vsets,vmr,vg,ve,vd,vrq,vop,vow,vw,vco,vou,van⟩,ps,hG,hE,hD,hR,hT,hK,hO,P,rfl⟩:=id hS
 obtain ⟨am,cm,hvm,hrm⟩:=P.mr
 simp only at hvm
 subst hvm
 have hfind:=find_spec w0 X c.m.rngs am cm c.m.epoch c.m.m1 c.m.m2 c.m.m3 c.m.m4 c.m.m5 x.block hrm hm
 refine zN Tryz.func157 M Tryz.ntmps157 Tryz.results157 M fun fr=>?_
 repeat (first|refine zF ?_|refine zB ?_|refine zE ?_|refine L_box M (c:=[_]) M M M (fun _=>?_)|refine L_box M (c:=[_,_,_,_,_,_,_,_,_,_,_,_,_]) M M M (fun _=>?_))
 rename_i b1 b2
 refine hold_drawV [6,10,11] [0,1,2,3,4,5,6,7,8,9,10,11,12] 10 6 [.int .i64 0,.int .i64 0,.int .i64 0,.int .i64 0] 80 (by kernel_rfl) M (by kernel_rfl) (by kernel_rfl) (by kernel_rfl) ?_
 repeat (first|refine V_of M M (fun _=>rfl) M M M M ?_|refine V_pure M (zZ M M M) (fun _=>zZ M M M) M M M M ?_|refine V_load M M (fun _=>rfl) (zG M (zS M)) M M M M ?_|refine V_load M M (fun _=>rfl) (zL (vs:=[_,_,_,_,_,_,_]) M M M) M M M M ?_)
 refine V_call M M M M M (zQ M M M) (fun _=>zQ M M M) hfind (Kept.all _) M M M M ?_
 rintro _ _ ⟨rfl,rfl⟩
 refine ⟨zka,?_⟩
 repeat (refine V_of M M (fun _=>rfl) M M M M ?_)
 refine V_now M M M M (fun b7=>?_)
 skip
 refine W_eff M M M M (ev_storeA (vs:=[_,_,_,_]) M M M M (c:=[_,_,_,_]) (Nat.le_of_ble_eq_true M) (c':=[_,_,_,_]) M) (Kept.all _) ?_
 rintro _ _ rfl
 refine ⟨zka,?_⟩
 refine zaD ?_
 repeat (first|refine zB ?_|refine zK M M M ?_|refine zY M M M M M ?_|refine L_ld M M M M M ?_|refine L_build (vs:=[_,_,_,_]) (cells:=[_,_,_,_,_,_,_,_,_,_,_,_,_,_,_,_,_]) M M M M ?_|refine L_clo M M M ?_)
 have hS2:CliT w0 (X+(pt b1 (.cells [pB b].toArray 24 (0,0))+pt b2 (.cells (cellsX x d).toArray 41 (0,0)))) b tb c _:=hS.mono M
 have hask:=asks_spec w0 _ b tb c _ n hS2 hB hn _ hgr (keptOp x (findR c.m.rngs x.block).1) _ (rd_bare w0 _ _ rfl M M M) later hl (.kept x) _ ⟨b1,b2,d,rfl,at_box,at_box⟩
 refine zX M M (zQ M M M) hask ?_
 rintro _ _ ⟨p,S',rfl,hL,rfl⟩
 repeat (refine zE ?_)
 exact ⟨[],_,_,trivial,hL.after,yJ.out⟩
theorem mapping_spec (hS:CliT w0 X b tb c S) (w:Wts) (k:Nat) [hk:Fun Tryz.prog k] (cap:List Value) (hw:WaitAt w0 X b tb (some w) (.func (.func k) #[] cap.toArray)) (hrun:c.stale=false→Spec Tryz.prog w0 k cap (X+S) (fun r h'=>After w0 X b tb (runW c w) h')) :
  Spec Tryz.prog w0 146 [pB b,.func (.func k) #[] cap.toArray] (X+S) (fun r h'=>After w0 X b tb (mappedF c w) h'):=by
 obtain ⟨⟨vmem,vr0,vsets,vmr,vg,ve,vd,vrq,vop,vow,vw,vco,vou,van⟩,ps,hG,hE,hD,hR,hT,hK,hO,P,rfl⟩:=hS
 have m1:c.stale=true→mappedF c w={ c with waits:=some w }:=fun h=>by unfold mappedF; rw [if_pos h]
 have m2:c.stale=false→mappedF c w=runW c w:=fun h=>by unfold mappedF; rw [if_neg (by rw [h]; simp)]
 refine zN Tryz.func146 M Tryz.ntmps146 Tryz.results146 M fun fr=>?_
 refine zbF ?_
 refine hold_cond (t:=c.stale) M (fun hst=>?_) (fun hst=>?_)
 ·rw [m1 hst]
  refine zeL ?_
  have hP:Parts w0 X b { c with waits:=some w } ⟨vmem,vr0,vsets,vmr,vg,ve,vd,vrq,vop,vow,.func (.func k) #[] cap.toArray,vco,vou,van⟩ tb ps hG hE hD hR hT hK hO :=
   Parts.mk P.mem P.rngs0 P.sets P.mr P.guess P.ended P.dbts P.reqs P.opn P.own P.txn hw P.coord P.out P.ansd
  change retD Tryz.prog w0 [] fr (fun r h'=>After w0 X b tb { c with waits:=some w } h') .ret _ _
  exact ret_cli [] trivial hP (by exact rfl) hP.now.after
 ·rw [m2 hst]
  repeat (first|refine zB ?_|refine zK M M M ?_|refine zP ?_)
  refine zX M M (zQ M M (by simp<;>rfl)) (hrun hst) ?_
  rintro _ _ hA
  repeat (refine zE ?_)
  exact ⟨[],_,_,trivial,hA,yJ.out⟩
theorem parting_spec (hS:CliT w0 X b tb c S) (hB:Bd n c) (hn:n≤1000000000) (t:Value) (ht:∃ ad,t=.pointer ad) (o:Opn) (oe:List Value) (ho:Rep.rd w0 X o oe) (g:Int) (hg:grp g) (later:Int) (hl:0≤later∧later≤1) :
  Spec Tryz.prog w0 230 [pB b,t,.agg oe.toArray,.int .i64 g,.int .i64 later] (X+S) (fun r h'=>After w0 X b tb (partF c o g later) h'):=by
 have hoo:=id ho
 obtain ⟨a1,c1,a2,c2,a3,c3,a4,c4,rfl,-⟩:=hoo
 obtain ⟨adt,rfl⟩:=ht
 refine zN Tryz.func230 M Tryz.ntmps230 Tryz.results230 M fun fr=>?_
 repeat (first|refine zF ?_|refine zB ?_|refine zE ?_|refine zK M M M ?_|refine L_ld M M M M M ?_|refine L_ldA M (vs:=[_,_,_,_,_,_,_,_,_,_,_,_,_,_,_,_,_]) M M M M M ?_|refine L_box M (c:=[_]) M M M (fun _=>?_)|refine L_box M (c:=[_,_,_,_,_,_,_,_,_,_,_,_,_,_,_,_,_]) M M M (fun _=>?_)|refine L_clo M M M ?_)
 rename_i b1 b2 b3 b4
 have hS2:CliT w0 (X+(pt b1 (.cells [pB b].toArray 24 (0,0))+(pt b2 (.cells [.pointer adt].toArray 92 (0,0))+(pt b3 (.cells (cellsO o (.slice a1 o.parts.length c1) (.slice a2 o.reads.length c2) (.slice a3 o.writes.length c3) (.slice a4 o.data.length c4)).toArray 63 (0,0))+pt b4 (.cells [.int .i64 g].toArray 3 (0,0)))))) b tb c S:=hS.mono M
 have hask:=asks_spec w0 _ b tb c S n hS2 hB hn g hg o _ (Rep.mono M ho) later hl (.part o g) _ ⟨b1,b2,b3,b4,adt,_,rfl,at_box,at_box,at_box,Rep.mono M ho,at_box⟩
 refine zX M M (zQ M M M) hask ?_
 rintro _ _ ⟨p,S',rfl,hL,rfl⟩
 repeat (refine zE ?_)
 exact ⟨[],_,_,trivial,hL.after,yJ.out⟩
variable (r:Res) (ad:Option Addr) (cp:Nat)
theorem change1_spec (hS:CliT w0 X b tb c S) (hB:Bd n c) (hn:n≤1000000000) (hr:RdL w0 X (.slice ad r.data.length cp) r.data) (x:Cal) (d:Value) (hg:grp x.group) (p q:Nat) (hp:At w0 X p 0 [pB b]) (hq:At w0 X q 0 (cellsX x d)) :
  Spec Tryz.prog w0 240 [.agg [.int .i64 r.code,.slice ad r.data.length cp].toArray,pB p,pB q] (X+S) (fun v h'=>After w0 X b tb (heardF c (.change x) r) h'):=by
 refine zN Tryz.func240 M Tryz.ntmps240 Tryz.results240 M fun fr=>?_
 repeat (first|refine zF ?_|refine zB ?_|refine zE ?_|refine zY M M M M M ?_|refine L_ld M M M M M ?_|refine L_box M (c:=[_,_]) M M M (fun _=>?_))
 refine yF M M (pv_eql M M) (fun h=>?_) (fun h=>?_)
 ·simp only [heardF,if_pos h]
  repeat (first|refine zF ?_|refine zB ?_|refine zE ?_|refine zJ M ?_|refine L_at M (by assumption) M M M M ?_|refine L_atA M (by assumption) M M M M ?_)
  refine zX M M (zQ M M M) (changing_spec w0 X b tb c S n hS hB hn x d 1 (by omega) hg) ?_
  rintro _ _ hA
  refine zbI ?_
  exact ⟨[],_,_,trivial,hA,yJ.out⟩
 ·simp only [heardF,if_neg h]
  repeat (first|refine zB ?_|refine zE ?_|refine zY M M M M M ?_|refine L_ld M M M M M ?_|refine zP ?_|refine zI M ?_|refine L_at M (by assumption) M M M M ?_)
  refine zX M M (zQ M M M) (coding_spec w0 X b tb c S hS r.code) ?_
  rintro _ _ hA
  repeat (refine zE ?_)
  exact ⟨[],_,_,trivial,hA.after,yJ.out⟩
theorem freeze1_spec (hS:CliT w0 X b tb c S) (hB:Bd n c) (hn:n≤1000000000) (hr:RdL w0 X (.slice ad r.data.length cp) r.data) (x:Cal) (d:Value) (ep:Int) (hg:grp x.src) (hg2:grp x.dst) (p q s:Nat) (hp:At w0 X p 0 [pB b]) (hq:At w0 X q 0 (cellsX x d)) (hs:At w0 X s 0 [.int .i64 ep]) :
  Spec Tryz.prog w0 238 [.agg [.int .i64 r.code,.slice ad r.data.length cp].toArray,pB p,pB q,pB s] (X+S) (fun v h'=>After w0 X b tb (heardF c (.frz x ep) r) h'):=by
 refine zN Tryz.func238 M Tryz.ntmps238 Tryz.results238 M fun fr=>?_
 repeat (first|refine zF ?_|refine zR ?_|refine zB ?_|refine zE ?_|refine zY M M M M M ?_|refine L_ld M M M M M ?_|refine L_box M (c:=[_,_]) M M M (fun _=>?_))
 refine yF M M (pv_eql M M) (fun h=>?_) (fun h=>?_)
 ·simp only [heardF,if_pos h]
  repeat (first|refine zB ?_|refine zE ?_|refine zK M M M ?_|refine zY M M M M M ?_|refine L_ld M M M M M ?_|refine zJ M ?_|refine L_at M (by assumption) M M M M ?_|refine L_atA M (by assumption) M M M M ?_)
  refine zX M M (zQ M M M) (installing_spec w0 X b tb c S n hS hB hn x d ep hg2 r.data ad cp hr) ?_
  rintro _ _ hA
  repeat (refine zE ?_)
  exact ⟨[],_,_,trivial,hA,yJ.out⟩
 ·simp only [heardF,if_neg h]
  refine zaA ?_
  refine yF M M (pv_eql M M) (fun h2=>?_) (fun h2=>?_)
  ·simp only [if_pos h2]
   refine zdN ?_
   refine zX M M (zQ M M M) (freezing_spec w0 X b tb c S n hS hB hn x d ep 1 (by omega) hg) ?_
   rintro _ _ hA
   repeat (refine zE ?_)
   exact ⟨[],_,_,trivial,hA,yJ.out⟩
  ·simp only [if_neg h2]
   refine zeP ?_
   refine zX M M (zQ M M M) (coding_spec w0 X b tb c S hS r.code) ?_
   rintro _ _ hA
   repeat (refine zE ?_)
   exact ⟨[],_,_,trivial,hA.after,yJ.out⟩
end
set_option maxHeartbeats 16000000
structure GRq where
 blk:Nat
 rq:Rq
instance repGRq :Rep GRq where
 tid:=142
 size:=1
 rd:=fun _ _ x e=>e=[pB x.blk]
 len:=by rintro _ _ _ _ rfl; rfl
 one:=by rintro _ _ _ _ rfl u hu; simp at hu; subst hu; rfl
 mono:=fun _ h=>h
def zipG (ps:List PRq) (rs:List Rq):List GRq:=(ps.zip rs).map fun p=>⟨p.1.blk,p.2⟩
def ptrG (xs:List GRq):List PRq:=xs.map fun x=>⟨x.blk⟩
theorem rdG_enc {w0:World} {L:Hp} {xs:List GRq} {es:List (List Value)}:All2 (Rep.rd w0 L) xs es↔es=xs.map fun x=>[pB x.blk]:=All2.enc (fun _ _=>Iff.rfl)
theorem rdP_enc {w0:World} {L:Hp} {xs:List PRq} {es:List (List Value)}:All2 (Rep.rd w0 L) xs es↔es=xs.map fun x=>[pB x.blk]:=All2.enc (fun _ _=>Iff.rfl)
theorem OwL.toG {w0:World} {X Y h:Hp} {ps:List PRq} {v:Value} (xs:List GRq) (hx:ptrG xs=ps) (H:OwL w0 X ps v h):OwL w0 Y xs v h:=by
 obtain ⟨es,h1,h2⟩:=H
 refine ⟨es,h1,rdG_enc.2 ?_⟩
 rw [rdP_enc.1 h2,← hx]; simp [ptrG]
theorem OwL.ofG {w0:World} {X Y h:Hp} {xs:List GRq} {v:Value} (H:OwL w0 X xs v h):OwL w0 Y (ptrG xs) v h:=by
 obtain ⟨es,h1,h2⟩:=H
 refine ⟨es,h1,rdP_enc.2 ?_⟩
 rw [rdG_enc.1 h2]; simp [ptrG]
theorem ptr_zip :∀ {ps:List PRq} {rs:List Rq},ps.length=rs.length→ptrG (zipG ps rs)=ps
 | [],[],_=>rfl
 | p::ps,r::rs,h=>by
  have:=ptr_zip (ps:=ps) (rs:=rs) (by simpa using h)
  simp only [ptrG,zipG,List.zip_cons_cons,List.map_cons] at this ⊢
  rw [this]
 | [],_::_,h=>by simp at h
 | _::_,[],h=>by simp at h
theorem rq_zip :∀ {ps:List PRq} {rs:List Rq},ps.length=rs.length→(zipG ps rs).map (·.rq)=rs
 | [],[],_=>rfl
 | p::ps,r::rs,h=>by
  have:=rq_zip (ps:=ps) (rs:=rs) (by simpa using h)
  simp only [zipG,List.zip_cons_cons,List.map_cons] at this ⊢
  rw [this]
 | [],_::_,h=>by simp at h
 | _::_,[],h=>by simp at h
def GrsAt (w0:World) (X:Hp) (b tb:Nat):List GRq→Hp→Prop
 | [],h=>h=0
 | x::xs,h=>∃ h1 h2,RqAt w0 X b tb x.blk x.rq h1∧GrsAt w0 X b tb xs h2∧h=h1+h2
section
variable {w0:World} {X:Hp} {b tb:Nat}
theorem GrsAt.of :∀ {ps:List PRq} {rs:List Rq} {h:Hp},RqsAt w0 X b tb ps rs h→GrsAt w0 X b tb (zipG ps rs) h
 | [],[],_,H=>H
 | p::ps,r::rs,_,⟨h1,h2,a,c,d⟩=>⟨h1,h2,a,GrsAt.of c,d⟩
 | [],_::_,_,H=>H.elim
 | _::_,[],_,H=>H.elim
theorem GrsAt.to :∀ {xs:List GRq} {h:Hp},GrsAt w0 X b tb xs h→RqsAt w0 X b tb (ptrG xs) (xs.map (·.rq)) h
 | [],_,H=>H
 | x::xs,_,⟨h1,h2,a,c,d⟩=>⟨h1,h2,a,GrsAt.to c,d⟩
theorem GrsAt.mem :∀ {xs:List GRq} {h:Hp},GrsAt w0 X b tb xs h→∀ {x:GRq},x∈xs→∃ h1 h2,RqAt w0 X b tb x.blk x.rq h1∧h=h1+h2
 | [],_,_,y,hy=>absurd hy (by simp)
 | x::xs,_,⟨h1,h2,a,c,d⟩,y,hy=>by
  rcases List.mem_cons.1 hy with rfl|hy
  ·exact ⟨h1,h2,a,d⟩
  ·obtain ⟨g1,g2,e1,e2⟩:=GrsAt.mem c hy
   exact ⟨g1,h1+g2,e1,by rw [d,e2]; ac_rfl⟩
theorem GrsAt.filter (p:GRq→Bool):∀ {xs:List GRq} {h:Hp},GrsAt w0 X b tb xs h→∃ h1 h2,GrsAt w0 X b tb (xs.filter p) h1∧h=h1+h2
 | [],h,H=>⟨0,0,rfl,Eq.trans (show h=0 from H) (yA 0).symm⟩
 | x::xs,_,⟨h1,h2,a,c,d⟩=>by
  obtain ⟨g1,g2,e1,e2⟩:=GrsAt.filter p c
  by_cases hp:p x=true
  ·rw [List.filter_cons_of_pos hp]
   exact ⟨h1+g1,g2,⟨h1,g1,a,e1,rfl⟩,by rw [d,e2]; ac_rfl⟩
  ·rw [List.filter_cons_of_neg hp]
   exact ⟨g1,h1+g2,e1,by rw [d,e2]; ac_rfl⟩
end
theorem indexFuncG_spec (w0:World) (X:Hp) (v:Value) (xs:List GRq) (k0:Nat) [hf:Fun Tryz.prog k0] (caps:List Value) (p:GRq→Bool) (hv:RdL w0 X v xs) (hl:xs.length≤1000000000)
  (hp:∀ Y x e,x∈xs→Rep.rd w0 Y x e→Spec Tryz.prog w0 k0 (pB x.blk::caps) X (fun r h'=>r=.bool (p x)∧X=h')) :
  Spec Tryz.prog w0 109 [v,.func (.func k0) #[] caps.toArray] X (fun r h'=>r=.int .i64 (idxF p xs)∧X=h'):=by
 obtain ⟨a,c,rfl⟩:=hv.shape
 refine zN Tryz.func109 M Tryz.ntmps109 Tryz.results109 M fun fr=>?_
 refine zaS ?_
 refine hold_count xs.length (fun k g L=>∃ R:Hp,g=[(0,.slice a xs.length c),(1,.func (.func k0) #[] caps.toArray),(7,.int .i64 xs.length),(8,.int .i64 k)]∧L=X+fr+R∧∀ x∈xs.take k,p x=false) _ ⟨0,rfl,(yA _).symm,by simp⟩ zsb ?_
 rintro k g L hk ⟨R,rfl,rfl,hpre⟩
 refine zaH ?_
 refine yF M M (pv_lss M M) (fun h2=>?_) (fun h2=>?_)
 ·have hx:k<xs.length:=by omega
  obtain ⟨b2,o2,rfl,e,hre,hat⟩:=hv.at hx
  obtain rfl:=id hre
  refine zaT ?_
  refine zX M M (zQ M M (by simp<;>rfl)) (hp X xs[k] _ (List.getElem_mem hx) hre) ?_
  rintro _ _ ⟨rfl,rfl⟩
  cases h3:p xs[k]
  ·refine zaJ ?_
   exact ⟨hx,_,zsb,_,rfl,yJ.out,all_take_succ hx hpre h3⟩
  ·refine zaB ?_
   exact ⟨[_],X,_,⟨rfl,trivial⟩,⟨by rw [idxF_hit hx h3 hpre]; rfl,rfl⟩,yJ.out⟩
 ·refine zaK ?_
  rw [List.take_of_length_le (by omega)] at hpre
  exact ⟨[_],X,_,⟨rfl,trivial⟩,⟨by rw [idxF_miss hpre]; rfl,rfl⟩,yJ.out⟩
theorem zeQ {G G' : Prop} (h : G') (f : Zh G'→G:=by intro h; (repeat (first|refine zF ?_|refine zR ?_|refine zB ?_|refine zE ?_|refine zK M M M ?_|refine zP ?_|refine zI M ?_|refine L_add M M (by omega) (by omega) M M ?_)); exact h.o) : G:=f ⟨h⟩
theorem deleteFuncG_spec (w0:World) (X:Hp) (xs:List GRq) (v:Value) (h:Hp) (k0:Nat) [hf:Fun Tryz.prog k0] (caps:List Value) (p:GRq→Bool) (hr:OwL w0 X xs v h) (hl:xs.length≤1000000000)
  (hp:∀ Y x e,x∈xs→Rep.rd w0 Y x e→Spec Tryz.prog w0 k0 (pB x.blk::caps) X (fun r h'=>r=.bool (p x)∧X=h')) :
  Spec Tryz.prog w0 112 [v,.func (.func k0) #[] caps.toArray] (X+h) (fun r h'=>∃ h2,OwL w0 X (xs.filter fun x=>!p x) r h2∧X+h2=h'):=by
 have hif:=indexFuncG_spec w0 (X+h) v xs k0 caps p hr.rd0 hl (fun Y x e hx he=>Spec.frameL M (hp Y x e hx he))
 obtain ⟨es,h1,h2⟩:=id hr
 obtain ⟨a,c,rfl⟩:=hr.shape
 have hlen:=h2.length
 refine zN Tryz.func112 M Tryz.ntmps112 Tryz.results112 M fun fr=>?_
 refine zaC ?_
 refine zX M M (zQ M M M) hif ?_
 rintro _ _ ⟨rfl,rfl⟩
 refine zaC ?_
 rcases idxF_cases p xs with ⟨hi,hall⟩|⟨i0,hi0,hi,hpi,hall⟩
 ·rw [hi]
  refine L_yes M M (pv_eql M M) M ?_
  refine zaB ?_
  exact ⟨[_],X+h,_,⟨rfl,trivial⟩,⟨h,by rw [List.filter_eq_self.2 (fun x hx=>by rw [hall x hx]; rfl)]; exact hr,rfl⟩,yJ.out⟩
 ·rw [hi]
  refine L_no M M (pv_eql M M) (by omega) ?_
  refine zeQ ?_
  obtain ⟨b,cap,spare,e1,rfl,hes,hcap,hmax,hsp⟩:=h1.nonempty (by intro e; subst e; simp at hlen; omega)
  simp only [Value.slice.injEq] at e1
  obtain ⟨rfl,-,rfl⟩:=e1
  rw [hlen] at hcap hsp
  change spare.length=(c - xs.length)*1 at hsp
  have hei0:i0<es.length:=by omega
  refine hold_loop (fun m g L=>∃ (i j:Nat) (fs ms:List (List Value)) (R:Hp),fs.length=i∧i+ms.length=j∧i<j∧j≤xs.length∧m=xs.length - j ∧
    g=[(0,.slice (some ⟨b,0,none⟩) xs.length c),(1,.func (.func k0) #[] caps.toArray),(5,.int .i64 i),(6,.int .i64 j)] ∧
    All2 (Rep.rd w0 X) ((xs.take j).filter fun x=>!p x) fs∧(∀ e∈ms,e.length=1) ∧
    L=X+pt b (.cells ((fs++(ms++es.drop j)).flatten++spare).toArray 142 (0,0))+fr+R) _ _
   ⟨i0,i0+1,es.take i0,[es[i0]],0,by rw [List.length_take]; omega,by simp,by omega,by omega,rfl,rfl,?_,?_,?_⟩ zsb ?_
  ·rw [List.take_succ_eq_append_getElem hi0,List.filter_append,List.filter_cons,hpi,List.filter_nil]
   simp only [Bool.not_true,Bool.false_eq_true,if_false,List.append_nil]
   rw [List.filter_eq_self.2 (fun x hx=>by rw [hall x hx]; rfl)]
   exact h2.take i0
  ·intro e he
   rw [List.mem_singleton] at he; subst he
   exact hes _ (List.getElem_mem hei0)
  ·rw [show es.take i0++([es[i0]]++es.drop (i0+1))=es by rw [List.singleton_append,← List.drop_eq_getElem_cons hei0,List.take_append_drop],yA]
   rfl
  rintro m g L ⟨i,j,fs,ms,R,rfl,hms,hij,hj,rfl,rfl,hfs,hmz,rfl⟩
  have hfl:∀ e∈fs,e.length=1:=hfs.lens
  have hcur:∀ e∈fs++(ms++es.drop j),e.length=1:=by
   intro e he
   rcases List.mem_append.1 he with he|he
   ·exact hfl e he
   ·rcases List.mem_append.1 he with he|he
    ·exact hmz e he
    ·exact hes e (List.mem_of_mem_drop he)
  refine zaP ?_
  refine yF M M (pv_lss M M) (fun n2=>?_) (fun n2=>?_)
  ·have hx:j<xs.length:=by omega
   obtain ⟨e,hej,hre⟩:=h2.get hx
   have hcj:(fs++(ms++es.drop j))[j]?=some e:=by
    rw [List.getElem?_append_right (by omega),List.getElem?_append_right (by omega),List.getElem?_drop,← hej]
    congr 1; omega
   have hat:At w0 _ b (0+j*1) e:=at_row (spare:=spare) (E:=142) (fz:=(0,0)) hcur hcj
   have hd:es.drop j=e::es.drop (j+1):=by
    have:j<es.length:=by omega
    rw [List.drop_eq_getElem_cons this]
    rw [List.getElem?_eq_getElem this] at hej
    rw [Option.some.inj hej]
   have htk:(xs.take (j+1)).filter (fun x=>!p x)=(xs.take j).filter (fun x=>!p x)++(if p xs[j]=true then [] else [xs[j]]):=by
    rw [List.take_succ_eq_append_getElem hx,List.filter_append]
    congr 1
    by_cases h:p xs[j]=true<;>simp [h]
   have hel:=Rep.len hre
   obtain rfl:=id hre
   refine zaT ?_
   refine zX M M (zQ M M (by simp<;>rfl)) (hp X xs[j] _ (List.getElem_mem hx) hre) ?_
   rintro _ _ ⟨rfl,rfl⟩
   cases h3:p xs[j]
   ·rw [if_neg (by rw [h3]; simp)] at htk
    obtain ⟨r0,rs,hr0,hrl,ms',hms',hml⟩:∃ r0 rs,ms++es.drop j=r0::rs∧r0.length=1∧∃ ms',rs=ms'++es.drop (j+1)∧ms'.length=ms.length:=by
     cases ms with
     | nil=>exact ⟨_,_,hd,hel,[],rfl,rfl⟩
     | cons m0 ms1=>exact ⟨m0,ms1++es.drop j,rfl,hmz m0 (by simp),ms1++(es.drop j).take 1,by rw [hd]; simp,by rw [hd]; simp⟩
    have hmz':∀ e∈ms',e.length=1:=by
     intro e' he'
     exact hcur e' (List.mem_append_right _ (by rw [hr0,hms']; exact List.mem_cons_of_mem _ (List.mem_append_left _ he')))
    rw [hr0]
    repeat (first|refine zF ?_|refine zB ?_|refine zE ?_|refine zK M M M ?_|refine zJ M ?_|refine L_idx M M (by omega) M M ?_)
    refine L_eff M M (ev_store (c:=(fs++r0::rs).flatten++spare) (c':=(fs++[[pB xs[j].blk]]++rs).flatten++spare) M M M M (set_row1_get hfl hrl) (set_row1 hfl hrl)) ?_
    rintro _ _ rfl
    refine zaI ?_
    exact ⟨xs.length - (j+1),_,by omega,zsb,fs.length+1,j+1,fs++[_],ms',_,by simp,by omega,by omega,by omega,rfl,rfl,by rw [htk]; exact hfs.append (All2.one hre),hmz',by rw [← hms']; exact yJ.out⟩
   ·rw [if_pos h3,List.append_nil] at htk
    refine zaJ ?_
    refine ⟨xs.length - (j+1),_,by omega,zsb,fs.length,j+1,fs,ms++[_],_,rfl,by simp; omega,by omega,by omega,rfl,rfl,by rw [htk]; exact hfs,?_,by rw [List.append_assoc ms,List.singleton_append,← hd]; exact yJ.out⟩
    intro e' he'
    rcases List.mem_append.1 he' with he'|he'
    ·exact hmz e' he'
    ·rw [List.mem_singleton] at he'; subst he'; exact hel
  ·obtain rfl:j=xs.length:=by omega
   rw [List.take_length] at hfs
   rw [List.drop_of_length_le (by omega),List.append_nil]
   refine zbA ?_
   refine yG M M (pv_slice_l (l:=fs.length) M M (by omega)) ?_
   rw [shiftA_some (b:=b) (l:=fs.length) (cap:=c) (by omega)]
   have lf:fs.flatten.length=fs.length*1:=length_flat hfl
   have lm:ms.flatten.length=ms.length*1:=length_flat hmz
   refine L_eff M M (ev_clearZ M M M (by rw [List.length_append,List.flatten_append,List.length_append,lf,lm]; omega)) ?_
   rintro _ _ ⟨zs,hzs,rfl⟩
   rw [show 0+fs.length*1=fs.flatten.length by omega,List.flatten_append,List.append_assoc,splice_append ms.flatten zs (by rw [lm,hzs]; omega) spare]
   refine zaC ?_
   refine yG M M (pv_slice_h (m:=fs.length) M M (by omega)) ?_
   refine zaE ?_
   exact ⟨[_],X+pt b (.cells (fs.flatten++(zs++spare)).toArray 142 (0,0)),_,⟨rfl,trivial⟩,⟨_,⟨fs,isRow_block (E:=142) (b:=b) hfl (by omega) hmax (by rw [List.length_append,hzs,hsp]; show _=(c - fs.length)*1; omega),hfs⟩,rfl⟩,yJ.out⟩
theorem pv_indexArr {P:Program} {g:Env} {t e:TypeId} {n:Nat} [hu:Und P t (.array n e)] {sz by':Nat} {z:Value} [hi:Inf P e sz by' z] {x ix:Operand} {b off:Nat} {k:IntKind} {i:Nat}
  (hx:ev g x=some (.pointer (some ⟨b,off,none⟩))) (hix:ev g ix=some (.int k (i:Int))) (h1:i<n) :
  PV P g (.indexAddr t x ix) (.pointer (some ⟨b,off+i*sz,none⟩)):=by
 intro o a w m ho ha
 obtain ⟨j,h3,h4,_⟩:=hi.out
 unfold execOp
 simp only [ho,ha.ev hx,ha.ev hix]
 have hadd:(⟨b,off,none⟩:Addr).add (i*j.size)=⟨b,off+i*sz,none⟩:=by subst h4; unfold Addr.add; split<;>simp_all
 have hlt:(i:Int)<(n:Int):=by omega
 simp [Instr.indexAt,asIntOf,run_underlying hu.out,sizeOf,typeInfo,h3,hadd,Instr.sureAddr]
 intro h; omega
theorem firstF_succ {l:List Rq} {k:Nat} (hk:k<l.length):firstF (l.take (k+1))=firstF (l.take k)++(if ((l.take k).all fun q=>decide (q.group≠l[k].group))=true then [k] else []):=by
 unfold firstF
 rw [List.length_take,Nat.min_eq_left (by omega),List.length_take,Nat.min_eq_left (by omega),List.range_succ,List.filter_append]
 congr 1
 ·refine List.filter_congr fun i hi=>?_
  rw [List.mem_range] at hi
  rw [List.getElem?_take_of_lt (by omega),List.getElem?_take_of_lt (by omega),List.take_take,List.take_take,Nat.min_eq_left (by omega),Nat.min_eq_left (by omega)]
 ·rw [List.filter_cons,List.filter_nil,List.getElem?_take_of_lt (by omega),List.getElem?_eq_getElem hk,List.take_take,Nat.min_eq_left (by omega)]
def firstP (ps:List PRq) (rs:List Rq):List PRq:=(firstF rs).map fun i=>ps.getD i ⟨0⟩
def gB (l:List Rq) (g:Nat):Bool:=l.any fun q=>decide (q.group=g)
abbrev gcells (l:List Rq):List Value:=[.bool (gB l 0),.bool (gB l 1),.bool (gB l 2),.bool (gB l 3),.bool (gB l 4)]
theorem gc_get {l:List Rq} {g:Nat} (hg:g<5):(gcells l)[0+g*1]?=some (.bool (gB l g)):=by
 match g,hg with
 | 0,_=>rfl
 | 1,_=>rfl
 | 2,_=>rfl
 | 3,_=>rfl
 | 4,_=>rfl
theorem gc_set {l:List Rq} {r:Rq} (hg:r.group<5):(gcells l).set (0+r.group*1) (.bool true)=gcells (l++[r]):=by
 have h:∀ k,gB (l++[r]) k=(gB l k||decide (r.group=k)):=fun k=>by simp [gB]
 simp only [gcells,h]
 generalize r.group=g at hg
 match g,hg with
 | 0,_=>simp
 | 1,_=>simp
 | 2,_=>simp
 | 3,_=>simp
 | 4,_=>simp
theorem all_gB (l:List Rq) (g:Nat):(l.all fun q=>decide (q.group≠g))=!gB l g:=by
 unfold gB
 rw [List.not_any_eq_all_not]
 congr 1; funext q; simp
theorem zdO {G G' : Prop} (h : G') (f : Zh G'→G:=by intro h; (repeat (first|refine zF ?_|refine zR ?_|refine zB ?_|refine zE ?_|refine zK M M M ?_|refine zY M M M M M ?_|refine L_ld M M M M M ?_|refine zP ?_|refine zJ M ?_|refine L_idx M M (by omega) M M ?_|refine L_at M (by assumption) M M M M ?_)); exact h.o) : G:=f ⟨h⟩
section
variable (w0:World) (X:Hp) (b tb:Nat) (c:Cl) (S:Hp) (n:Nat)
theorem firsts_spec (V:Raw) (ps:List PRq) (r1 r2 hG hE hD hT hK hO:Hp) (P:Parts w0 X b c V tb ps hG hE hD (r1+r2) hT hK hO) (h3:OwL w0 0 ps V.reqs r1) (h4:RqsAt w0 X b tb ps c.reqs r2) (hn:c.reqs.length≤1000000000) (hg:∀ r∈c.reqs,r.group<5) :
  Spec Tryz.prog w0 81 [pB b] (X+(cliC b (clL c V)+(hG+(hE+(hD+((r1+r2)+(hT+(hK+hO))))))))
   (fun v h'=>∃ k,OwL w0 0 (firstP ps c.reqs) v k∧X+(cliC b (clL c V)+(hG+(hE+(hD+((r1+r2)+(hT+(hK+hO)))))))+k=h'):=by
 obtain ⟨vmem,vr0,vsets,vmr,vg,ve,vd,vrq,vop,vow,vw,vco,vou,van⟩:=V
 have hlp:=h4.length
 obtain ⟨ar,cr,hvr⟩:=h3.shape
 simp only at hvr
 subst hvr
 have hrd:RdL w0 r1 (.slice ar ps.length cr) ps:=h3.rdh
 refine zN Tryz.func81 M Tryz.ntmps81 Tryz.results81 M fun fr=>?_
 repeat (first|refine zF ?_|refine zR ?_|refine zB ?_|refine zE ?_|refine zK M M M ?_|refine zY M M M M M ?_|refine L_ld M M M M M ?_|refine L_len M M M ?_|refine L_alloc (c:=[_,_,_,_,_]) M M M (fun _=>?_))
 rename_i b4
 refine hold_count ps.length (fun k g L=>∃ (vo:Value) (ho R:Hp),g=[(3,vo),(4,pB b4),(10,.slice ar ps.length cr),(11,.int .i64 ps.length),(12,.int .i64 k)]∧OwL w0 0 (firstP ps (c.reqs.take k)) vo ho ∧
  L=pt b4 (.cells (gcells (c.reqs.take k)).toArray 207 (0,0))+(X+(cliC b (clL c ⟨vmem,vr0,vsets,vmr,vg,ve,vd,.slice ar ps.length cr,vop,vow,vw,vco,vou,van⟩)+(hG+(hE+(hD+((r1+r2)+(hT+(hK+hO)))))))+fr)+ho+R) _
  ⟨.slice none 0 0,0,0,rfl,OwL.nil _ _,by simp only [List.take_zero,gcells,gB,List.any_nil]; exact yJ.out⟩ zsb ?_
 rintro k g L hk ⟨vo,ho,R,rfl,hfo,rfl⟩
 refine zaH ?_
 refine yF M M (pv_lss M M) (fun n1=>?_) (fun n1=>?_)
 ·have hx:k<ps.length:=by omega
  have hx2:k<c.reqs.length:=by omega
  obtain ⟨p,h1,h2,e1,⟨b1,d1,b2,d2,b3,d3,b4',d4,hv,rfl,q1,q2,q3,q4,hh⟩,rfl,-,-⟩:=h4.get (List.getElem?_eq_getElem hx2)
  obtain ⟨bq,oq,rfl,eg,rfl,hat⟩:=hrd.at hx
  obtain rfl:ps[k]=p:=by rw [List.getElem?_eq_getElem hx] at e1; exact Option.some.inj e1
  have hgr:=hg _ (List.getElem_mem hx2)
  refine zdO ?_
  refine yG M M (pv_indexArr (n:=5) M M hgr) ?_
  refine L_load M M (yE M) (zG M (zS (gc_get hgr))) ?_
  have hfs:=firstF_succ hx2
  rw [all_gB] at hfs
  cases hgb:gB (c.reqs.take k) c.reqs[k].group
  ·rw [hgb] at hfs
   have hfp:firstP ps (c.reqs.take (k+1))=firstP ps (c.reqs.take k)++[ps[k]]:=by
    unfold firstP
    rw [hfs]
    simp [List.getD_eq_getElem?_getD,List.getElem?_eq_getElem hx]
   obtain ⟨af,cf,rfl⟩:=hfo.shape
   have hfl:(firstP ps (c.reqs.take k)).length≤k:=by
    unfold firstP firstF
    rw [List.length_map]
    refine Nat.le_trans (List.length_filter_le _ _) ?_
    rw [List.length_range,List.length_take]; omega
   repeat (first|refine zB ?_|refine zE ?_|refine zK M M M ?_|refine zJ M ?_|refine L_bs (vs:=[_]) (cells:=[_]) M M M M M M (fun _=>?_))
   refine L_eff M M (ev_appendL (X:=0) (h:=ho) (ns:=[ps[k]]) M M hfo (rd_one M) (All2.one M) M M M M M (by rw [List.length_singleton]; omega)) ?_
   rintro v5 _ ⟨h5,ho5,rfl⟩
   repeat (first|refine zB ?_|refine zE ?_|refine zK M M M ?_|refine zY M M M M M ?_|refine L_ld M M M M M ?_)
   refine yG M M (pv_indexArr (n:=5) M M hgr) ?_
   refine L_eff M M (ev_store M M M M (gc_get hgr) (gc_set hgr)) ?_
   rintro _ _ rfl
   rw [← List.take_succ_eq_append_getElem hx2]
   refine zaI ?_
   exact ⟨by omega,_,zsb,v5,h5,_,rfl,by rw [hfp]; exact ho5,yJ.out⟩
  ·rw [hgb] at hfs
   have hfp:firstP ps (c.reqs.take (k+1))=firstP ps (c.reqs.take k):=by
    unfold firstP
    rw [hfs]; simp
   repeat (first|refine zB ?_|refine zE ?_|refine zK M M M ?_|refine zY M M M M M ?_|refine L_ld M M M M M ?_|refine zP ?_|refine zI M ?_)
   refine yG M M (pv_indexArr (n:=5) M M hgr) ?_
   refine L_eff M M (ev_store M M M M (gc_get hgr) (gc_set hgr)) ?_
   rintro _ _ rfl
   rw [← List.take_succ_eq_append_getElem hx2]
   refine zaI ?_
   exact ⟨by omega,_,zsb,vo,ho,_,rfl,by rw [hfp]; exact hfo,yJ.out⟩
 ·obtain rfl:k=ps.length:=by omega
  rw [List.take_of_length_le (by omega)] at hfo
  refine zaK ?_
  exact ⟨[_],_,_,⟨rfl,trivial⟩,⟨ho,hfo,rfl⟩,yJ.out⟩
end
def hB (l:List Int) (g:Nat):Bool:=l.contains (g:Int)
abbrev hcells (l:List Int):List Value:=[.bool (hB l 0),.bool (hB l 1),.bool (hB l 2),.bool (hB l 3),.bool (hB l 4)]
theorem hc_get {l:List Int} {g:Nat} (hg:g<5):(hcells l)[0+g*1]?=some (.bool (hB l g)):=by
 match g,hg with
 | 0,_=>rfl
 | 1,_=>rfl
 | 2,_=>rfl
 | 3,_=>rfl
 | 4,_=>rfl
theorem hc_set {l:List Int} {g:Nat} (hg:g<5):(hcells l).set (0+g*1) (.bool true)=hcells ((g:Int)::l):=by
 have h:∀ k:Nat,hB ((g:Int)::l) k=(decide ((k:Int)=(g:Int))||hB l k):=fun k=>by unfold hB; rw [List.contains_cons]; rfl
 simp only [hcells,h]
 match g,hg with
 | 0,_=>simp
 | 1,_=>simp
 | 2,_=>simp
 | 3,_=>simp
 | 4,_=>simp
theorem least_eq {m:Mpp} (h:I64 m.epoch):leastF m=if moved m=true then (if m.epoch=-9223372036854775808 then 9223372036854775807 else m.epoch - 1) else m.epoch:=by
 unfold leastF
 obtain ⟨h1,h2⟩:=h
 by_cases hm:moved m=true
 ·rw [if_pos hm,if_pos hm]
  by_cases he:m.epoch=-9223372036854775808
  ·rw [if_pos he,he]; rfl
  ·rw [if_neg he]; exact wrap_i64_in _ (by omega) (by omega)
 ·rw [if_neg hm,if_neg hm]
theorem zcR {G G' : Prop} (h : G') (f : Zh G'→G:=by intro h; (repeat (first|refine yI ?_|refine yH M M M M M ?_|refine yD M M M M (zZ M M M) ?_|refine W_load M M M M (yE M) (zG M (zS M)) ?_)); exact h.o) : G:=f ⟨h⟩
theorem checkRanges_spec (w0:World) (X:Hp) (m:Mpp) (a:Option Addr) (cp:Nat) (hv:RdL w0 X (.slice a m.rngs.length cp) m.rngs) (hl:m.rngs.length≤1000000000) (hep:I64 m.epoch) :
  Spec Tryz.prog w0 66 [.agg [.slice a m.rngs.length cp,.int .i64 m.epoch,.int .i64 m.m1,.int .i64 m.m2,.int .i64 m.m3,.int .i64 m.m4,.int .i64 m.m5].toArray] X (fun r h'=>r=.int .i64 (checkR m)∧X=h'):=by
 have hmv:(!(decide (m.m1=0)&&(decide (m.m2=0)&&(decide (m.m3=0)&&(decide (m.m4=0)&&(decide (m.m5=0)&&true))))))=moved m:=by
  unfold moved
  by_cases h1:m.m1=0<;>by_cases h2:m.m2=0<;>by_cases h3:m.m3=0<;>by_cases h4:m.m4=0<;>by_cases h5:m.m5=0<;>simp [h1,h2,h3,h4,h5]
 refine zN Tryz.func66 M Tryz.ntmps66 Tryz.results66 M fun fr=>?_
 repeat (first|refine zF ?_|refine zB ?_|refine zE ?_|refine zK M M M ?_|refine L_box M (c:=[_,_,_,_,_,_,_]) M M M (fun _=>?_))
 rename_i b1
 refine yB [] [0,1,2,3] (by kernel_rfl) M (by kernel_rfl) (by kernel_rfl) ?_
 refine zcR ?_
 repeat (first|refine zF ?_|refine zB ?_|refine zY M M M M M ?_|refine L_ldA M (vs:=[_,_,_,_,_]) M M M M M ?_|refine L_build (vs:=[]) (cells:=[_,_,_,_,_]) M M M M ?_)
 refine yG M M (pv_neq_struct M M (by kernel_rfl) (by kernel_rfl) (r:=decide (m.m1=0)&&(decide (m.m2=0)&&(decide (m.m3=0)&&(decide (m.m4=0)&&(decide (m.m5=0)&&true))))) M) ?_
 rw [hmv]
 repeat (refine zE ?_)
 refine hold_join (fun g' L'=>∃ R:Hp,Sub g' [(1,pB b1),(3,.int .i64 0),(4,.int .i64 (leastF m))]∧L'=X+pt b1 (.cells [.slice a m.rngs.length cp,.int .i64 m.epoch,.int .i64 m.m1,.int .i64 m.m2,.int .i64 m.m3,.int .i64 m.m4,.int .i64 m.m5].toArray 88 (0,0))+fr+R) ?_ ?_
 ·refine hold_cond (t:=moved m) M (fun hm=>?_) (fun hm=>?_)
  ·refine zbQ ?_
   refine yG M M (pv_sub_w M M) ?_
   refine zaR ?_
   have hle:leastF m=IntKind.i64.wrap (m.epoch - 1):=by unfold leastF; rw [if_pos hm]
   rw [hle]
   exact ⟨0,zsb,yJ.out⟩
  ·repeat (refine zP ?_)
   have hle:leastF m=m.epoch:=by unfold leastF; rw [if_neg (by rw [hm]; simp)]
   rw [hle]
   exact ⟨0,zsb,yJ.out⟩
 ·rintro g' _ ⟨R0,hsub,rfl⟩
  refine hold_env hsub ?_
  clear hsub g'
  repeat (first|refine zF ?_|refine zR ?_|refine zB ?_|refine zE ?_|refine zK M M M ?_|refine zY M M M M M ?_|refine L_ld M M M M M ?_|refine L_len M M M ?_|refine L_alloc (c:=[_,_,_,_,_]) M M M (fun _=>?_))
  rename_i b5
  refine hold_count m.rngs.length (fun k g L=>∃ (at':Int) (had:List Int) (R:Hp),g=[(1,pB b1),(3,.int .i64 at'),(4,.int .i64 (leastF m)),(5,pB b5),(19,.slice a m.rngs.length cp),(20,.int .i64 m.rngs.length),(21,.int .i64 k)] ∧
   chainF m.rngs 0 [] (leastF m)=chainF (m.rngs.drop k) at' had (leastF m) ∧
   L=pt b5 (.cells (hcells had).toArray 207 (0,0))+(X+pt b1 (.cells [.slice a m.rngs.length cp,.int .i64 m.epoch,.int .i64 m.m1,.int .i64 m.m2,.int .i64 m.m3,.int .i64 m.m4,.int .i64 m.m5].toArray 88 (0,0))+fr)+R) _
   ⟨0,[],R0,rfl,rfl,by rw [show hcells []=[.bool false,.bool false,.bool false,.bool false,.bool false] from rfl]; exact yJ.out⟩ zsb ?_
  rintro k g L hk ⟨at',had,R,rfl,hch,rfl⟩
  refine zaH ?_
  refine yF M M (pv_lss M M) (fun n1=>?_) (fun n1=>?_)
  ·have hx:k<m.rngs.length:=by omega
   obtain ⟨bq,oq,rfl,e,rfl,hat⟩:=hv.at hx
   rw [List.drop_eq_getElem_cons hx] at hch
   simp only [chainF] at hch
   generalize m.rngs[k]=r at hch hat
   have hfail:(r.lo≠at'∨r.hi≤r.lo∨64<r.hi∨r.group<1∨4<r.group∨r.group∈had∨r.epoch<1∨leastF m<r.epoch)→checkR m=4:=fun h=>by rw [if_pos h] at hch; unfold checkR; rw [hch]
   repeat' (first|refine zF ?_|refine zR ?_|refine zB ?_|refine zE ?_|refine zK M M M ?_|refine zY M M M M M ?_|refine L_ld M M M M M ?_|refine zP ?_|refine zM ?_|refine zJ M ?_|refine zI M ?_|refine L_idx M M (by omega) M M ?_|refine L_atA M (by assumption) M M M M ?_|refine L_stA M (vs:=[_,_,_,_]) M M M M (c':=[_,_,_,_]) M M ?_|refine L_alloc (c:=[_,_,_,_]) M M M (fun _=>?_)|refine yF M M (pv_lss M M) (fun _=>?_) (fun _=>?_)|refine yF M M (pv_leq M M) (fun _=>?_) (fun _=>?_)|refine yF M M (pv_gtr M M) (fun _=>?_) (fun _=>?_)|refine yF M M (pv_neq M M) (fun _=>?_) (fun _=>?_)|exact ⟨[_],X,_,⟨rfl,trivial⟩,⟨by rw [hfail (by omega)]; rfl,rfl⟩,yJ.out⟩|done)
   obtain ⟨lo,hi,gr,ep⟩:=r
   simp only at *
   obtain ⟨j,rfl⟩:=Int.eq_ofNat_of_zero_le (a:=gr) (by omega)
   have hj:j<5:=by omega
   refine yG M M (pv_indexArr (n:=5) M M hj) ?_
   refine L_load M M (yE M) (zG M (zS (hc_get hj))) ?_
   cases hb:hB had j
   ·have hnm:¬ ((j:Int)∈had):=fun h=>by
     have:hB had j=true:=by unfold hB; exact List.contains_iff_mem.2 h
     rw [hb] at this; cases this
    repeat' (first|refine zF ?_|refine zB ?_|refine zE ?_|refine zK M M M ?_|refine zY M M M M M ?_|refine L_ld M M M M M ?_|refine zP ?_|refine zM ?_|refine zJ M ?_|refine zI M ?_|refine yF M M (pv_lss M M) (fun _=>?_) (fun _=>?_)|refine yF M M (pv_gtr M M) (fun _=>?_) (fun _=>?_)|exact ⟨[_],X,_,⟨rfl,trivial⟩,⟨by rw [hfail (by omega)]; rfl,rfl⟩,yJ.out⟩|done)
    rw [if_neg (by simp only [not_or]; exact ⟨by omega,by omega,by omega,by omega,by omega,hnm,by omega,by omega⟩)] at hch
    refine yB [6] [0,1,2,3,4,5,6] (by kernel_rfl) M (by kernel_rfl) (by kernel_rfl) ?_
    refine zaF ?_
    refine yD M M M M (pv_indexArr (n:=5) M M hj) ?_
    skip
    refine W_eff M M M M (ev_store M M M M (hc_get hj) (hc_set hj)) (Kept.all _) ?_
    rintro _ _ rfl
    refine ⟨zka,?_⟩
    repeat (refine yI ?_)
    refine zaI ?_
    exact ⟨hx,_,zsb,_,_,_,rfl,hch,yJ.out⟩
   ·have hm:(j:Int)∈had:=by unfold hB at hb; exact List.contains_iff_mem.1 hb
    refine zbD ?_
    exact ⟨[_],X,_,⟨rfl,trivial⟩,⟨by rw [hfail (.inr (.inr (.inr (.inr (.inr (.inl hm))))))]; rfl,rfl⟩,yJ.out⟩
  ·obtain rfl:k=m.rngs.length:=by omega
   rw [List.drop_length] at hch
   simp only [chainF] at hch
   have hck:checkR m=if at'≠64∨1099511627776<m.epoch then 4 else if moved m=false then 0 else if plannedF m.rngs (leastF m) 0 m.m2 m.m3 m.m4 m.m5≠0∨leastF m+1≠m.m1 then 4 else 0:=by unfold checkR; rw [hch]
   have hle:=least_eq hep
   have hep2:=hep
   unfold I64 at hep2
   have hmf:leastF m=m.epoch→moved m=false:=fun h=>by
    cases hm:moved m
    ·rfl
    ·rw [hm,if_pos M] at hle; split at hle<;>omega
   have hmt:leastF m≠m.epoch→moved m=true:=fun h=>by
    cases hm:moved m
    ·rw [hm,if_neg (by simp)] at hle; exact absurd hle h
    ·rfl
   have hlo:-9223372036854775808≤leastF m:=by rw [hle]; split<;>(try split)<;>omega
   repeat' (first|refine zF ?_|refine yC ?_|refine zB ?_|refine zE ?_|refine zK M M M ?_|refine zY M M M M M ?_|refine L_ld M M M M M ?_|refine L_skip M M ?_|refine zP ?_|refine zM ?_|refine zJ M ?_|refine zI M ?_|refine L_ldA M (vs:=[_,_,_,_,_]) M M M M M ?_|refine L_build (vs:=[_,_]) (cells:=[_,_,_,_,_,_,_]) M M M M ?_|refine yF M M (pv_gtr M M) (fun _=>?_) (fun _=>?_)|refine yF M M (pv_eql M M) (fun _=>?_) (fun _=>?_)|refine yF M M (pv_neq M M) (fun _=>?_) (fun _=>?_)|first|exact ⟨[_],X,_,⟨rfl,trivial⟩,⟨by rw [hck,if_pos (by omega)]; rfl,rfl⟩,yJ.out⟩|exact ⟨[_],X,_,⟨rfl,trivial⟩,⟨by rw [hck,if_neg (by omega),if_pos (hmf (by assumption))]; rfl,rfl⟩,yJ.out⟩|done)
   rename_i h1 h2 h3
   have hmo:=hmt h3
   rw [if_neg (by omega),if_neg (by rw [hmo]; simp)] at hck
   refine zX M M (zQ M M M) (plan_spec w0 X m.rngs a cp (leastF m) 0 0 0 0 0 m.m1 m.m2 m.m3 m.m4 m.m5 hv hl hlo) ?_
   rintro _ _ (⟨hp,rfl,rfl⟩|⟨hp,u,hu,rfl,hou,rfl⟩)
   ·repeat (first|refine zF ?_|refine zB ?_|refine zE ?_|refine zK M M M ?_|refine L_stA M (vs:=[_,_,_,_,_,_,_]) M M M M (c':=[_,_,_,_,_,_,_]) M M ?_|refine L_alloc (c:=[_,_,_,_,_,_,_]) M M M (fun _=>?_))
    refine L_yes M M (pv_neq M M) hp ?_
    refine zbS ?_
    exact ⟨[_],X,_,⟨rfl,trivial⟩,⟨by rw [hck,if_pos (.inl hp)]; rfl,rfl⟩,yJ.out⟩
   ·obtain ⟨au,cu,rfl⟩:=hou.shape
    repeat (first|refine zF ?_|refine zB ?_|refine zE ?_|refine zK M M M ?_|refine L_stA M (vs:=[_,_,_,_,_,_,_]) M M M M (c':=[_,_,_,_,_,_,_]) M M ?_|refine L_alloc (c:=[_,_,_,_,_,_,_]) M M M (fun _=>?_))
    refine L_no M M (pv_neq M M) (by omega) ?_
    repeat (first|refine zK M M M ?_|refine zY M M M M M ?_|refine L_ldA M (vs:=[_,_,_,_,_]) M M M M M ?_)
    have hr:(!(decide (leastF m+1=m.m1)&&(decide (m.m2=m.m2)&&(decide (m.m3=m.m3)&&(decide (m.m4=m.m4)&&(decide (m.m5=m.m5)&&true))))))=decide (leastF m+1≠m.m1):=by simp
    refine yG M M (pv_neq_struct M M (by kernel_rfl) (by kernel_rfl) (r:=decide (leastF m+1=m.m1)&&(decide (m.m2=m.m2)&&(decide (m.m3=m.m3)&&(decide (m.m4=m.m4)&&(decide (m.m5=m.m5)&&true))))) M) ?_
    rw [hr]
    refine zaR ?_
    refine hold_cond_d M (fun h=>?_) (fun h=>?_)
    ·refine zbE ?_
     exact ⟨[_],X,_,⟨rfl,trivial⟩,⟨by rw [hck,if_pos (.inr h)]; rfl,rfl⟩,yJ.out⟩
    ·repeat (first|refine zF ?_|refine zB ?_|refine zE ?_|refine zK M M M ?_|refine zP ?_|refine zM ?_)
     exact ⟨[_],X,_,⟨rfl,trivial⟩,⟨by rw [hck,if_neg (fun hh=>hh.elim (fun h2=>h2 hp) h)]; rfl,rfl⟩,yJ.out⟩
abbrev mapC (b:Nat) (v:Value) (k0 k1 k2 k3 k4 k5:Int):Hp:=pt b (.cells [v,.int .i64 k0,.int .i64 k1,.int .i64 k2,.int .i64 k3,.int .i64 k4,.int .i64 k5].toArray 88 (0,0))
theorem readRng_spec (w0:World) (D:Hp) (b bm bx:Nat) (s:RS) (h hm:Hp) (vm:Value) (l:List Rng) (hr:RdrAt w0 D b s h) (ho:OwL w0 0 l vm hm) (hl:l.length≤1000000000) (hs:s.left.length≤1000000000000) :
  Spec Tryz.prog w0 298 [pB bm,pB bx] (D+(h+(mapC bm vm 0 0 0 0 0 0+hm)+pt bx (.cells [pB b].toArray 105 (0,0))))
   (fun r h'=>∃ h2 vm2 hm2,RdrAt w0 D b (rngG s).2 h2∧OwL w0 0 (l++[(rngG s).1]) vm2 hm2∧D+(h2+(mapC bm vm2 0 0 0 0 0 0+hm2)+pt bx (.cells [pB b].toArray 105 (0,0)))=h'):=by
 obtain ⟨av,cv,rfl⟩:=ho.shape
 refine zN Tryz.func298 M Tryz.ntmps298 Tryz.results298 M fun fr=>?_
 refine yB [3,5,7,9,11,12,14] [0,1,2,4,6,8,3,5,7,9,10,11,12,13,14] (by kernel_rfl) M (by kernel_rfl) (by kernel_rfl) ?_
 refine zbR ?_
 refine W_call M M M M (zQ M M M) (getInt_spec w0 D b s h hr (by first|exact hs|(have:=intS_le s; omega)|(have:=intS_le s; have:=intS_le (intS s); omega)|(have:=intS_le s; have:=intS_le (intS s); have:=intS_le (intS (intS s)); omega))) (Kept.all _) ?_
 rintro _ _ ⟨g1,rfl,u1,rfl⟩
 refine ⟨zka,?_⟩
 skip
 refine W_call M M M M (zQ M M M) (getInt_spec w0 D b (intS s) g1 u1 (by first|exact hs|(have:=intS_le s; omega)|(have:=intS_le s; have:=intS_le (intS s); omega)|(have:=intS_le s; have:=intS_le (intS s); have:=intS_le (intS (intS s)); omega))) (Kept.all _) ?_
 rintro _ _ ⟨g2,rfl,u2,rfl⟩
 refine ⟨zka,?_⟩
 skip
 refine W_call M M M M (zQ M M M) (getInt_spec w0 D b (intS (intS s)) g2 u2 (by first|exact hs|(have:=intS_le s; omega)|(have:=intS_le s; have:=intS_le (intS s); omega)|(have:=intS_le s; have:=intS_le (intS s); have:=intS_le (intS (intS s)); omega))) (Kept.all _) ?_
 rintro _ _ ⟨g3,rfl,u3,rfl⟩
 refine ⟨zka,?_⟩
 skip
 refine W_call M M M M (zQ M M M) (getInt_spec w0 D b (intS (intS (intS s))) g3 u3 (by first|exact hs|(have:=intS_le s; omega)|(have:=intS_le s; have:=intS_le (intS s); omega)|(have:=intS_le s; have:=intS_le (intS s); have:=intS_le (intS (intS s)); omega))) (Kept.all _) ?_
 rintro _ _ ⟨g4,rfl,u4,rfl⟩
 refine ⟨zka,?_⟩
 repeat (refine yD M M M M (pv_build (vs:=[_,_,_,_]) (cells:=[_,_,_,_]) M M) ?_)
 refine W_eff M M M M (ev_buildSlice (vs:=[_]) (cells:=[_,_,_,_]) M M M M) (Kept.all _) ?_
 rintro _ _ ⟨bn,rfl,rfl⟩
 refine ⟨zka,?_⟩
 skip
 refine W_eff M M M M (ev_appendL (X:=0) (ns:=[(rngG s).1]) (h:=hm) M M ho (rd_one M) (All2.one M) M M M M M (by rw [List.length_singleton]; omega)) (Kept.all _) ?_
 rintro v5 _ ⟨h5,ho5,rfl⟩
 obtain ⟨a5,c5,rfl⟩:=ho5.shape
 refine ⟨zka,?_⟩
 repeat (refine yD M M M M (zZ M M M) ?_)
 refine W_eff M M M M (ev_store M M M M M (c':=[_,_,_,_,_,_,_]) M) (.keep (.keep (.keep (.keep (.drop (by kernel_rfl) .nil))))) ?_
 rintro _ _ rfl
 refine ⟨zka,?_⟩
 repeat (refine yI ?_)
 skip
 exact ⟨[],_,_,trivial,⟨g4,_,h5,u4,ho5,rfl⟩,yJ.out⟩
def eachOk (s:RS):Bool:=rngsN s&&((intV s).toNat==0||!(many rngG (intV s).toNat (intS s)).2.bad)
theorem bad_int {s:RS} (h:s.bad=true):(intS s).bad=true:=by unfold intS takeS takeOk; rw [h]; rfl
theorem bad_rng {s:RS} (h:s.bad=true):(rngG s).2.bad=true:=bad_int (bad_int (bad_int (bad_int h)))
theorem bad_many {s:RS} {i:Nat} (h:(many rngG i s).2.bad=true):∀ j,(many rngG (i+j) s).2.bad=true
 | 0=>h
 | j+1=>bad_rng (bad_many h j)
theorem rngG_le (s:RS):(rngG s).2.left.length≤s.left.length:=by
 unfold rngG
 have h1:=intS_le s
 have h2:=intS_le (intS s)
 have h3:=intS_le (intS (intS s))
 have h4:=intS_le (intS (intS (intS s)))
 simp only; omega
theorem many_rng_le :∀ (k:Nat) (s:RS),(many rngG k s).2.left.length≤s.left.length
 | 0,s=>Nat.le_refl _
 | k+1,s=>Nat.le_trans (rngG_le _) (many_rng_le k s)
theorem each_spec (w0:World) (D:Hp) (b bm bx:Nat) (s:RS) (h:Hp) (hr:RdrAt w0 D b s h) (hs:s.left.length≤1000000000) :
  Spec Tryz.prog w0 297 [pB b,.func (.func 298) #[] [pB bm,pB bx].toArray] (D+(h+mapC bm (.slice none 0 0) 0 0 0 0 0 0+pt bx (.cells [pB b].toArray 105 (0,0))))
   (fun r h'=>∃ h2 vm hm s2 l2,r=.bool (eachOk s)∧RdrAt w0 D b s2 h2∧s2.left.length≤s.left.length∧OwL w0 0 l2 vm hm∧(eachOk s=true→s2=(many rngG (intV s).toNat (intS s)).2∧l2=(many rngG (intV s).toNat (intS s)).1) ∧
    D+(h2+(mapC bm vm 0 0 0 0 0 0+hm)+pt bx (.cells [pB b].toArray 105 (0,0)))=h'):=by
 refine zN Tryz.func297 M Tryz.ntmps297 Tryz.results297 M fun fr=>?_
 refine zaC ?_
 refine zX M M (zQ M M M) (getInt_spec w0 D b s h hr (by omega)) ?_
 rintro _ _ ⟨h2,rfl,hr2,rfl⟩
 refine zaC ?_
 have fail:rngsN s=false→∃ h3 vm hm s2 l2,Value.bool false=.bool (eachOk s)∧RdrAt w0 D b s2 h3∧s2.left.length≤s.left.length∧OwL w0 0 l2 vm hm∧(eachOk s=true→s2=(many rngG (intV s).toNat (intS s)).2∧l2=(many rngG (intV s).toNat (intS s)).1) ∧
    D+(h3+(mapC bm vm 0 0 0 0 0 0+hm)+pt bx (.cells [pB b].toArray 105 (0,0)))=D+(h2+(mapC bm (.slice none 0 0) 0 0 0 0 0 0+0)+pt bx (.cells [pB b].toArray 105 (0,0))):=fun hn=>by
  have he:eachOk s=false:=by unfold eachOk; rw [hn]; rfl
  exact ⟨h2,.slice none 0 0,0,intS s,[],by rw [he],hr2,intS_le s,OwL.nil _ _,fun h=>by (rw [he] at h; cases h),rfl⟩
 refine yF M M (pv_lss M M) (fun n1=>?_) (fun n1=>?_)
 ·refine zbS ?_
  exact ⟨[_],_,_,⟨rfl,trivial⟩,fail (by unfold rngsN; exact decide_eq_false (by omega)),by rw [yA]; exact yJ.out⟩
 ·repeat (refine zK M M M ?_)
  refine zX M M (zQ M M M) (left02_spec w0 D b _ h2 hr2) ?_
  rintro _ _ ⟨rfl,rfl⟩
  have hle:=intS_le s
  refine yG M M (pv_quo_nn M M (by omega) (by omega) (by omega)) ?_
  skip
  refine yF M M (pv_gtr M M) (fun n2=>?_) (fun n2=>?_)
  ·refine zaB ?_
   exact ⟨[_],_,_,⟨rfl,trivial⟩,fail (by unfold rngsN; exact decide_eq_false (by omega)),by rw [yA]; exact yJ.out⟩
  ·have hN:rngsN s=true:=by unfold rngsN; exact decide_eq_true ⟨by omega,by omega⟩
   obtain ⟨N,hNe⟩:=Int.eq_ofNat_of_zero_le (a:=intV s) (by omega)
   have hNt:(intV s).toNat=N:=by omega
   have hN8:N≤1000000000:=by omega
   rw [hNe]
   refine zbY ?_
   refine hold_count N (fun k g L=>∃ (hk:Hp) (vm:Value) (hm R:Hp),g=[(0,pB b),(1,.func (.func 298) #[] [pB bm,pB bx].toArray),(17,.int .i64 (N:Int)),(18,.int .i64 k)] ∧
    RdrAt w0 D b (many rngG k (intS s)).2 hk∧OwL w0 0 (many rngG k (intS s)).1 vm hm∧(k≠0→(many rngG k (intS s)).2.bad=false)∧L=D+(hk+(mapC bm vm 0 0 0 0 0 0+hm)+pt bx (.cells [pB b].toArray 105 (0,0)))+fr+R) _
    ⟨h2,.slice none 0 0,0,0,rfl,hr2,OwL.nil _ _,fun h=>absurd M h,by rw [yA,yA]; exact yJ.out⟩ zsb ?_
   rintro k g L hk ⟨h3,vm,hm,R,rfl,hr3,ho3,hb3,rfl⟩
   refine zaH ?_
   refine yF M M (pv_lss M M) (fun n3=>?_) (fun n3=>?_)
   ·have hx:k<N:=by omega
    have hml:=many_rng_le k (intS s)
    have hll:=many_length rngG k (intS s)
    refine zbB ?_
    refine zX M M (zQ M M (by simp<;>rfl)) (readRng_spec w0 D b bm bx _ h3 hm vm _ hr3 ho3 (by omega) (by omega)) ?_
    rintro _ _ ⟨h4,vm2,hm2,hr4,ho4,rfl⟩
    refine zaC ?_
    refine zX M M (zQ M M M) (bad02_spec w0 D b _ h4 hr4) ?_
    rintro _ _ ⟨rfl,rfl⟩
    have hml4:=many_rng_le (k+1) (intS s)
    cases hbad:(rngG (many rngG k (intS s)).2).2.bad
    ·refine zaJ ?_
     exact ⟨hx,_,zsb,h4,vm2,hm2,_,rfl,hr4,ho4,fun _=>hbad,yJ.out⟩
    ·refine zaB ?_
     have he:eachOk s=false:=by
      have hbm:(many rngG (k+1) (intS s)).2.bad=true:=hbad
      have:=bad_many hbm (N - (k+1))
      rw [show k+1+(N - (k+1))=N by omega] at this
      unfold eachOk; rw [hN,hNt,this]
      have:(N==0)=false:=by simp; omega
      rw [this]; rfl
     exact ⟨[_],_,_,⟨rfl,trivial⟩,⟨h4,vm2,hm2,_,_,by rw [he]; rfl,hr4,Nat.le_trans hml4 hle,ho4,fun h=>by (rw [he] at h; cases h),rfl⟩,yJ.out⟩
   ·obtain rfl:k=N:=by omega
    refine zaK ?_
    have he:eachOk s=true:=by
     unfold eachOk; rw [hN,hNt]
     by_cases h0:k=0
     ·simp [h0]
     ·rw [hb3 h0]; simp
    exact ⟨[_],_,_,⟨rfl,trivial⟩,⟨h3,vm,hm,_,_,by rw [he]; rfl,hr3,Nat.le_trans (many_rng_le k (intS s)) hle,ho3,fun _=>⟨rfl,rfl⟩,rfl⟩,yJ.out⟩
theorem intV_i64 (s:RS):I64 (intV s):=by
 unfold intV I64
 split
 ·unfold dec8; rw [IntKind.wrap_i64]; omega
 ·omega
theorem readMap_spec (w0:World) (D:Hp) (b:Nat) (s:RS) (h:Hp) (hr:RdrAt w0 D b s h) (hs:s.left.length≤1000000000) :
  Spec Tryz.prog w0 236 [pB b] (D+h)
   (fun r h'=>∃ h2 hm vm m s3,r=.tuple #[.agg [vm,.int .i64 m.epoch,.int .i64 m.m1,.int .i64 m.m2,.int .i64 m.m3,.int .i64 m.m4,.int .i64 m.m5].toArray,.bool (eachOk s)]∧RdrAt w0 D b s3 h2∧OwL w0 0 m.rngs vm hm∧I64 m.epoch∧(eachOk s=true→(m,s3)=readMap s)∧D+(h2+hm)=h'):=by
 refine zN Tryz.func236 M Tryz.ntmps236 Tryz.results236 M fun fr=>?_
 repeat (first|refine zF ?_|refine zB ?_|refine zE ?_|refine zK M M M ?_|refine L_ld M M M M M ?_|refine L_box M (c:=[_]) M M M (fun _=>?_)|refine L_alloc (c:=[_,_,_,_,_,_,_]) M M M (fun _=>?_)|refine L_clo M M M ?_)
 rename_i bx b2 b4
 refine zX M M (zQ M M M) (each_spec w0 D b b4 bx s h hr hs) ?_
 rintro _ _ ⟨h2,vm,hm,s2,l2,rfl,hr2,hs2,ho2,he2,rfl⟩
 obtain ⟨av,cv,rfl⟩:=ho2.shape
 refine zdH ?_
 refine zX M M (zQ M M M) (getInt_spec w0 D b s2 h2 hr2 (by omega)) ?_
 rintro _ _ ⟨g0,rfl,u0,rfl⟩
 repeat (first|refine zF ?_|refine zE ?_|refine zY M M M M M ?_|refine L_st M M M (c':=[_,_,_,_,_,_,_]) M M M M ?_)
 have l1:=intS_le s2
 have l2':=intS_le (intS s2)
 have l3:=intS_le (intS (intS s2))
 have l4:=intS_le (intS (intS (intS s2)))
 have l5:=intS_le (intS (intS (intS (intS s2))))
 refine yB [1,3,5,7,9,12] [0,2,4,6,8,1,3,5,7,9,10,11,12] (by kernel_rfl) M (by kernel_rfl) (by kernel_rfl) ?_
 repeat (refine W_load M M M M (yE M) (zG M (zS M)) ?_)
 refine W_call M M M M (zQ M M M) (getInt_spec w0 D b (intS s2) g0 u0 (by omega)) (Kept.all _) ?_
 rintro _ _ ⟨g1,rfl,u1,rfl⟩
 refine ⟨zka,?_⟩
 skip
 refine W_call M M M M (zQ M M M) (getInt_spec w0 D b (intS (intS s2)) g1 u1 (by omega)) (Kept.all _) ?_
 rintro _ _ ⟨g2,rfl,u2,rfl⟩
 refine ⟨zka,?_⟩
 skip
 refine W_call M M M M (zQ M M M) (getInt_spec w0 D b (intS (intS (intS s2))) g2 u2 (by omega)) (Kept.all _) ?_
 rintro _ _ ⟨g3,rfl,u3,rfl⟩
 refine ⟨zka,?_⟩
 skip
 refine W_call M M M M (zQ M M M) (getInt_spec w0 D b (intS (intS (intS (intS s2)))) g3 u3 (by omega)) (Kept.all _) ?_
 rintro _ _ ⟨g4,rfl,u4,rfl⟩
 refine ⟨zka,?_⟩
 skip
 refine W_call M M M M (zQ M M M) (getInt_spec w0 D b (intS (intS (intS (intS (intS s2))))) g4 u4 (by omega)) (Kept.all _) ?_
 rintro _ _ ⟨g5,rfl,u5,rfl⟩
 refine ⟨zka,?_⟩
 repeat (first|refine yD M M M M (zZ M M M) ?_|refine yD M M M M (pv_build (vs:=[_,_,_,_,_]) (cells:=[_,_,_,_,_]) M M) ?_)
 refine W_eff M M M M (ev_storeA (vs:=[_,_,_,_,_]) M M M M (c:=[_,_,_,_,_,_,_]) (Nat.le_of_ble_eq_true M) (c':=[_,_,_,_,_,_,_]) M) (Kept.all _) ?_
 rintro _ _ rfl
 refine ⟨zka,?_⟩
 repeat (refine yI ?_)
 repeat (first|refine zF ?_|refine zB ?_|refine zE ?_|refine zK M M M ?_|refine zM ?_|refine L_ldA M (vs:=[_,_,_,_,_,_,_]) M M M M M ?_|refine L_stA M (vs:=[_,_,_,_,_,_,_]) M M M M (c':=[_,_,_,_,_,_,_]) M M ?_)
 refine ⟨[_,_],D+(g5+hm),_,⟨⟨_,rfl,zL (vs:=[_,_,_,_,_,_,_]) M M M⟩,rfl,trivial⟩,⟨g5,hm,_,⟨l2,intV s2,intV (intS s2),intV (intS (intS s2)),intV (intS (intS (intS s2))),intV (intS (intS (intS (intS s2)))),intV (intS (intS (intS (intS (intS s2)))))⟩,_,rfl,u5,ho2,intV_i64 _,fun h=>?_,rfl⟩,yJ.out⟩
 obtain ⟨rfl,rfl⟩:=he2 h
 rfl
def endedF (ok:Bool) (s:RS) (m:Mpp):Int:=if ok=false then 4 else if endV s≠0 then endV s else checkR m
theorem zcS {G G' : Prop} (h : G') (f : Zh G'→G:=by intro h; (repeat (first|refine zF ?_|refine zB ?_|refine zK M M M ?_|refine zP ?_|refine zI M ?_)); exact h.o) : G:=f ⟨h⟩
theorem ended_spec (w0:World) (D:Hp) (b:Nat) (s:RS) (h hm:Hp) (ok:Bool) (m:Mpp) (av:Option Addr) (cv:Nat) (hr:RdrAt w0 D b s h) (ho:OwL w0 0 m.rngs (.slice av m.rngs.length cv) hm) (hl:ok=true→m.rngs.length≤1000000000) (hep:I64 m.epoch) :
  Spec Tryz.prog w0 237 [pB b,.bool ok,.agg [.slice av m.rngs.length cv,.int .i64 m.epoch,.int .i64 m.m1,.int .i64 m.m2,.int .i64 m.m3,.int .i64 m.m4,.int .i64 m.m5].toArray] (D+(h+hm)) (fun r h'=>r=.int .i64 (endedF ok s m)∧D+(h+hm)=h'):=by
 have hck:=fun h=>checkRanges_spec w0 hm m av cv ho.rdh (hl h) hep
 unfold endedF
 refine zN Tryz.func237 M Tryz.ntmps237 Tryz.results237 M fun fr=>?_
 repeat (first|refine zF ?_|refine zB ?_|refine zE ?_|refine zK M M M ?_|refine L_box M (c:=[_,_,_,_,_,_,_]) M M M (fun _=>?_))
 cases ok
 ·refine zaB ?_
  exact ⟨[_],_,_,⟨rfl,trivial⟩,⟨rfl,rfl⟩,yJ.out⟩
 ·refine zcS ?_
  refine zX M M (zQ M M M) (end02_spec w0 D b s h hr) ?_
  rintro _ _ ⟨rfl,rfl⟩
  refine zaC ?_
  refine yF M M (pv_neq M M) (fun n1=>?_) (fun n1=>?_)
  ·refine zaB ?_
   exact ⟨[_],D+(h+hm),_,⟨rfl,trivial⟩,⟨by rw [if_neg (by simp),if_pos n1]; rfl,rfl⟩,yJ.out⟩
  ·repeat (first|refine zF ?_|refine zB ?_|refine zE ?_|refine zP ?_|refine zI M ?_|refine L_ldA M (vs:=[_,_,_,_,_,_,_]) M M M M M ?_)
   refine zX M M (zQ M M M) (hck M) ?_
   rintro _ _ ⟨rfl,rfl⟩
   refine zaE ?_
   exact ⟨[_],D+(h+hm),_,⟨rfl,trivial⟩,⟨by rw [if_neg (by simp),if_neg n1]; rfl,rfl⟩,yJ.out⟩
theorem endV_bad {s:RS} (h:s.bad=true):endV s=4:=by unfold endV; rw [if_pos h]
theorem getMap_eq {b:List Bt} {m:Mpp} {s3:RS} (h:eachOk ⟨b,false⟩=true→(m,s3)=readMap ⟨b,false⟩) :
  getMapF b=if endedF (eachOk ⟨b,false⟩) s3 m=0 then (m,0) else (noMap,endedF (eachOk ⟨b,false⟩) s3 m):=by
 unfold getMapF
 cases hr:rngsN ⟨b,false⟩
 ·have he:eachOk ⟨b,false⟩=false:=by unfold eachOk; rw [hr]; rfl
  rw [he]; rfl
 ·rw [if_neg (by simp)]
  cases he:eachOk ⟨b,false⟩
  ·have hbad:(many rngG (intV ⟨b,false⟩).toNat (intS ⟨b,false⟩)).2.bad=true:=by
    unfold eachOk at he; rw [hr] at he; simp at he; exact he.2
   have h2:(readMap ⟨b,false⟩).2.bad=true:=by unfold readMap; exact bad_int (bad_int (bad_int (bad_int (bad_int (bad_int hbad)))))
   simp only [endV_bad h2]
   rfl
  ·have:=h he
   rw [← this]
   simp only [endedF,Bool.true_eq_false,if_false]
   by_cases h1:endV s3=0<;>by_cases h2:checkR m=0<;>simp [h1,h2]
theorem readMap_len {s:RS} {m:Mpp} {s3:RS} (hk:eachOk s=true) (h:eachOk s=true→(m,s3)=readMap s):m.rngs.length≤s.left.length:=by
 have h1:=congrArg Prod.fst (h hk)
 simp only [readMap] at h1
 subst h1
 rw [many_length]
 have hr:rngsN s=true:=by unfold eachOk at hk; cases hh:rngsN s<;>simp_all
 unfold rngsN at hr
 have hr:=of_decide_eq_true hr
 have:=intS_le s
 omega
theorem getMap_spec (w0:World) (X:Hp) (v:Value) (bs:List Bt) (hv:RdL w0 X v bs) (hl:bs.length≤1000000000) :
  Spec Tryz.prog w0 162 [v] X (fun r h'=>∃ av cv G,r=.tuple #[.agg [.slice av (getMapF bs).1.rngs.length cv,.int .i64 (getMapF bs).1.epoch,.int .i64 (getMapF bs).1.m1,.int .i64 (getMapF bs).1.m2,.int .i64 (getMapF bs).1.m3,.int .i64 (getMapF bs).1.m4,.int .i64 (getMapF bs).1.m5].toArray,.int .i64 (getMapF bs).2] ∧
   RdL w0 G (.slice av (getMapF bs).1.rngs.length cv) (getMapF bs).1.rngs∧X+G=h'):=by
 have hrd:=read02_spec w0 X v bs hv (by omega)
 obtain ⟨a0,c0,rfl⟩:=hv.shape
 refine zN Tryz.func162 M Tryz.ntmps162 Tryz.results162 M fun fr=>?_
 repeat (first|refine zF ?_|refine zB ?_|refine zE ?_|refine zK M M M ?_|refine L_alloc (c:=[_,_,_,_,_,_,_]) M M M (fun _=>?_))
 rename_i b2
 refine zX M M (zQ M M M) hrd ?_
 rintro _ _ ⟨br,D,h2,rfl,hr2,rfl⟩
 refine zaC ?_
 refine zX M M (zQ M M M) (readMap_spec w0 D br _ h2 hr2 hl) ?_
 rintro _ _ ⟨h3,hm,vm,m,s3,rfl,hr3,ho3,hep,he,rfl⟩
 obtain ⟨av,cv,rfl⟩:=ho3.shape
 repeat (first|refine zF ?_|refine zB ?_|refine zE ?_|refine zK M M M ?_|refine L_ldA M (vs:=[_,_,_,_,_,_,_]) M M M M M ?_|refine L_stA M (vs:=[_,_,_,_,_,_,_]) M M M M (c':=[_,_,_,_,_,_,_]) M M ?_|refine L_alloc (c:=[_,_,_,_,_,_,_]) M M M (fun _=>?_))
 refine zX M M (zQ M M M) (ended_spec w0 D br s3 h3 hm (eachOk ⟨bs,false⟩) m av cv hr3 ho3 (fun hk=>Nat.le_trans (readMap_len hk he) hl) hep) ?_
 rintro _ _ ⟨rfl,rfl⟩
 have heq:=getMap_eq he
 refine zaC ?_
 refine yF M M (pv_neq M M) (fun n1=>?_) (fun n1=>?_)
 ·rw [if_neg n1] at heq
  rw [heq]
  refine zeF ?_
  exact ⟨[_,_],X,_,⟨⟨_,rfl,zL (vs:=[_,_,_,_,_,_,_]) M M M⟩,rfl,trivial⟩,⟨none,0,0,rfl,RdL.nil _ _ _,yA X⟩,yJ.out⟩
 ·rw [if_pos (by simpa using n1)] at heq
  rw [heq]
  repeat (first|refine zF ?_|refine zB ?_|refine zE ?_|refine zK M M M ?_|refine zP ?_|refine zM ?_|refine zI M ?_|refine L_ldA M (vs:=[_,_,_,_,_,_,_]) M M M M M ?_|refine L_stA M (vs:=[_,_,_,_,_,_,_]) M M M M (c':=[_,_,_,_,_,_,_]) M M ?_)
  exact ⟨[_,_],X+hm,_,⟨⟨_,rfl,zL (vs:=[_,_,_,_,_,_,_]) M M M⟩,rfl,trivial⟩,⟨av,cv,hm,rfl,ho3.rdh,rfl⟩,yJ.out⟩
section
variable (w0:World) (X:Hp) (b tb:Nat) (c:Cl) (S:Hp) (n:Nat)
theorem learning_spec (hS:CliT w0 X b tb c S) (l:List Bt) (ad:Option Addr) (cp:Nat) (hl:RdL w0 X (.slice ad l.length cp) l) (hlen:l.length≤1000000000) :
  Spec Tryz.prog w0 301 [pB b,.slice ad l.length cp] (X+S) (fun r h'=>r=.bool (decide ((getMapF l).2=0))∧After w0 X b tb (learnF c l) h'):=by
 obtain ⟨⟨vmem,vr0,vsets,vmr,vg,ve,vd,vrq,vop,vow,vw,vco,vou,van⟩,ps,hG,hE,hD,hR,hT,hK,hO,P,rfl⟩:=hS
 have hget:=getMap_spec w0 X _ l hl hlen
 have m1:(getMapF l).2=0→c.m.epoch≤(getMapF l).1.epoch→learnF c l={ c with m:=(getMapF l).1 }:=fun h1 h2=>by unfold learnF; rw [if_pos ⟨h1,h2⟩]
 have m2:¬ ((getMapF l).2=0∧c.m.epoch≤(getMapF l).1.epoch)→learnF c l=c:=fun h=>by unfold learnF; rw [if_neg h]
 generalize learnF c l=c' at *
 generalize hg:getMapF l=me at *
 obtain ⟨⟨mr,m0,k1,k2,k3,k4,k5⟩,e⟩:=me
 simp only at *
 refine zN Tryz.func301 M Tryz.ntmps301 Tryz.results301 M fun fr=>?_
 refine zaC ?_
 refine zX M M (zQ M M M) hget ?_
 rintro _ _ ⟨av,cv,G,rfl,hrd,rfl⟩
 repeat (first|refine zF ?_|refine zE ?_|refine zK M M M ?_|refine L_stA M (vs:=[_,_,_,_,_,_,_]) M M M M (c':=[_,_,_,_,_,_,_]) M M ?_|refine L_alloc (c:=[_,_,_,_,_,_,_]) M M M (fun _=>?_))
 rename_i b5
 refine yB [] [0,1,2,3,4,5,6,7,8,9,10,11] (by kernel_rfl) M (by kernel_rfl) (by kernel_rfl) ?_
 repeat (refine yH M M M M M ?_)
 refine W_dec M M M M (pv_eql M M) (fun n2=>?_) (fun n2=>?_)
 ·refine zaF ?_
  refine W_dec M M M M (pv_geq M M) (fun n3=>?_) (fun n3=>?_)
  ·refine zaD ?_
   repeat (first|refine zF ?_|refine zB ?_|refine zE ?_|refine zK M M M ?_|refine zY M M M M M ?_|refine zJ M ?_|refine L_ldA M (vs:=[_,_,_,_,_,_,_]) M M M M M ?_|refine L_stA M (vs:=[_,_,_,_,_,_,_]) M M M M (c':=(_::_::_::_::_::_::_::_::_::_::_::_::_::_::_::_::_::_::_::_::_::_::_::_::_::_::_::_::_::_::_::_::_::_::_::_::_::_::[])) M M ?_)
   refine yG M M (pv_eql M M) ?_
   refine zaE ?_
   rw [m1 n2 n3]
   have P2:=P.mono (L:=X+G) (R:=G) M
   have hP:Parts w0 (X+G) b { c with m:=⟨mr,m0,k1,k2,k3,k4,k5⟩ } ⟨vmem,vr0,vsets,.slice av mr.length cv,vg,ve,vd,vrq,vop,vow,vw,vco,vou,van⟩ tb ps hG hE hD hR hT hK hO :=
    Parts.mk P2.mem P2.rngs0 P2.sets ⟨av,cv,rfl,hrd.mono (hadd_comm _ _)⟩ P2.guess P2.ended P2.dbts P2.reqs P2.opn P2.own P2.txn P2.waits P2.coord P2.out P2.ansd
   exact ret_cli (X:=X+G) [_] ⟨rfl,trivial⟩ hP (by exact rfl) ⟨rfl,hP.now.after.trans⟩
  ·refine zaD ?_
   refine zcS ?_
   refine yG M M (pv_eql M M) ?_
   refine zaE ?_
   rw [m2 (fun h=>n3 h.2)]
   have P2:=P.mono (L:=X+G) (R:=G) M
   exact ret_cli (X:=X+G) [_] ⟨rfl,trivial⟩ P2 (by exact rfl) ⟨rfl,P2.now.after.trans⟩
 ·refine zaQ ?_
  refine zcS ?_
  refine yG M M (pv_eql M M) ?_
  refine zaE ?_
  rw [m2 (fun h=>n2 h.1)]
  have P2:=P.mono (L:=X+G) (R:=G) M
  exact ret_cli (X:=X+G) [_] ⟨rfl,trivial⟩ P2 (by exact rfl) ⟨rfl,P2.now.after.trans⟩
variable (r:Res) (ad:Option Addr) (cp:Nat)
theorem move1_spec (hS:CliT w0 X b tb c S) (hB:Bd n c) (hn:n≤1000000000) (hr:RdL w0 X (.slice ad r.data.length cp) r.data) (hlen:r.data.length≤1000000000) (x:Cal) (d:Value) (hg:grp x.src) (p q:Nat) (hp:At w0 X p 0 [pB b]) (hq:At w0 X q 0 (cellsX x d)) :
  Spec Tryz.prog w0 161 [.agg [.int .i64 r.code,.slice ad r.data.length cp].toArray,pB p,pB q] (X+S) (fun v h'=>After w0 X b tb (frzF c x (getMapF r.data).1.m1 0) h'):=by
 have hget:=getMap_spec w0 X _ r.data hr hlen
 refine zN Tryz.func161 M Tryz.ntmps161 Tryz.results161 M fun fr=>?_
 repeat (first|refine zF ?_|refine zB ?_|refine zE ?_|refine zY M M M M M ?_|refine L_ld M M M M M ?_|refine L_box M (c:=[_,_]) M M M (fun _=>?_))
 refine zX M M (zQ M M M) hget ?_
 rintro _ _ ⟨av,cv,G,rfl,hrd,rfl⟩
 repeat (first|refine zB ?_|refine zE ?_|refine zK M M M ?_|refine zY M M M M M ?_|refine L_ld M M M M M ?_|refine L_at M (by assumption) M M M M ?_|refine L_atA M (by assumption) M M M M ?_|refine L_stA M (vs:=[_,_,_,_,_,_,_]) M M M M (c':=[_,_,_,_,_,_,_]) M M ?_|refine L_alloc (c:=[_,_,_,_,_,_,_]) M M M (fun _=>?_))
 refine zX M M (zQ M M M) (freezing_spec w0 (X+G) b tb c S n (hS.mono M) hB hn x d (getMapF r.data).1.m1 0 (by omega) hg) ?_
 rintro _ _ hA
 repeat (refine zE ?_)
 exact ⟨[],_,_,trivial,hA.trans,yJ.out⟩
theorem ok1_spec (hS:CliT w0 X b tb c S) (hr:RdL w0 X (.slice ad r.data.length cp) r.data) (p q:Nat) (k:Nat) [hk:Fun Tryz.prog k] (cap:List Value) (c':Cl) (hp:At w0 X p 0 [pB b]) (hq:At w0 X q 0 [.func (.func k) #[] cap.toArray])
  (hrun:Spec Tryz.prog w0 k (.agg [.int .i64 r.code,.slice ad r.data.length cp].toArray::cap) (X+S) (fun v h'=>After w0 X b tb c' h')) :
  Spec Tryz.prog w0 235 [.agg [.int .i64 r.code,.slice ad r.data.length cp].toArray,pB p,pB q] (X+S) (fun v h'=>After w0 X b tb (if r.code≠0 then codeF c r.code else c') h'):=by
 refine zN Tryz.func235 M Tryz.ntmps235 Tryz.results235 M fun fr=>?_
 repeat (first|refine zF ?_|refine zB ?_|refine zE ?_|refine zY M M M M M ?_|refine L_ld M M M M M ?_|refine L_box M (c:=[_,_]) M M M (fun _=>?_))
 refine yF M M (pv_neq M M) (fun h=>?_) (fun h=>?_)
 ·rw [if_pos h]
  repeat (first|refine zF ?_|refine zB ?_|refine zE ?_|refine zY M M M M M ?_|refine L_ld M M M M M ?_|refine zJ M ?_|refine L_at M (by assumption) M M M M ?_)
  refine zX M M (zQ M M M) (coding_spec w0 X b tb c S hS r.code) ?_
  rintro _ _ hA
  refine zbI ?_
  exact ⟨[],_,_,trivial,hA.after,yJ.out⟩
 ·rw [if_neg h]
  repeat (first|refine zB ?_|refine zE ?_|refine zP ?_|refine zI M ?_|refine L_at M (by assumption) M M M M ?_|refine L_ldA M (vs:=[_,_]) M M M M M ?_)
  refine zX M M (zQ M M (by simp<;>rfl)) hrun ?_
  rintro _ _ hA
  repeat (refine zE ?_)
  exact ⟨[],_,_,trivial,hA,yJ.out⟩
theorem install1_spec (hS:CliT w0 X b tb c S) (hB:Bd n c) (hn:n≤1000000000) (x:Cal) (d:Value) (ep:Int) (p q s:Nat) (hp:At w0 X p 0 [pB b]) (hq:At w0 X q 0 [.int .i64 ep]) (hs:At w0 X s 0 (cellsX x d)) :
  Spec Tryz.prog w0 299 [.agg [.int .i64 r.code,.slice ad r.data.length cp].toArray,pB p,pB q,pB s] (X+S) (fun v h'=>After w0 X b tb (finF c x ep) h'):=by
 have hok:=oking_spec w0 X b tb c S n hS hB hn 0 ⟨by omega,by omega⟩ ⟨10,0,0,0,0,ep,0,0,0,0,0,0,0,[],[],[],[]⟩ _ (rd_bare w0 _ _ rfl M M M) 300 [pB p,pB s,pB q].toArray (.fin x ep) (fun Y p' q' h1 h2=>⟨p',q',p,s,q,d,rfl,h1,h2,hp.mono M,hs.mono M,hq.mono M⟩)
 refine zN Tryz.func299 M Tryz.ntmps299 Tryz.results299 M fun fr=>?_
 repeat (first|refine zF ?_|refine zB ?_|refine zE ?_|refine L_at M (by assumption) M M M M ?_|refine L_build (vs:=[_,_]) (cells:=[_,_,_,_,_,_,_,_,_,_,_,_,_,_,_,_,_]) M M M M ?_|refine L_box M (c:=[_,_]) M M M (fun _=>?_)|refine L_clo M M M ?_)
 refine zX M M (zQ M M M) hok ?_
 rintro _ _ hA
 repeat (refine zE ?_)
 exact ⟨[],_,_,trivial,hA,yJ.out⟩
end
theorem zeR {G G' : Prop} (h : G') (f : Zh G'→G:=by intro h; (repeat (first|refine yH M M M M M ?_|refine yD M M M M (zZ M M M) ?_|refine W_load M M M M (yE M) (zG M (zS M)) ?_|refine yD M M M M (pv_build (vs:=[_,_,_,_,_]) (cells:=[_,_,_,_,_,_,_,_,_,_,_,_,_,_,_,_,_]) M M) ?_)); exact h.o) : G:=f ⟨h⟩
section
variable (w0:World) (X:Hp) (b tb:Nat) (c:Cl) (S:Hp) (n:Nat)
theorem askRead_spec (hS:CliT w0 X b tb c S) (hB:Bd n c) (hn:n≤1000000000) (hF:Fine c) (hm:c.m.rngs.length≤1000000000) (ho:c.opn=true) (hal:c.cur.asked.length≤1000000000) (blk later:Int) (hl:0≤later∧later≤1) :
  Spec Tryz.prog w0 148 [pB b,.int .i64 blk,.int .i64 later] (X+S) (fun r h'=>After w0 X b tb (readF c blk later) h'):=by
 have hgr:=findR_grp hF blk
 obtain ⟨⟨vmem,vr0,vsets,vmr,vg,ve,vd,vrq,vop,vow,vw,vco,vou,van⟩,ps,hG,hE,hD,hR,hT,hK,hO,P,rfl⟩:=hS
 obtain ⟨am,cm,hvm,hrm⟩:=P.mr
 have hvo:=P.opn
 rw [ho] at hvo
 simp only [ptrIf,cond_true] at hvm hvo
 subst hvm
 subst hvo
 have hT2:TxnAt w0 X tb c.cur hT:=by
  rcases P.txn with h|h
  ·exact h
  ·rw [h.1] at ho; cases ho
 obtain ⟨vr,va,vw',ap,cp,hr,ha,hw,rfl,k1,k2,k3,k4⟩:=hT2
 obtain ⟨aa,ca,rfl⟩:=k2.shape
 have hfind:=find_spec w0 X c.m.rngs am cm c.m.epoch c.m.m1 c.m.m2 c.m.m3 c.m.m4 c.m.m5 blk hrm hm
 unfold readF
 simp only
 generalize (findR c.m.rngs blk).1=rg at *
 refine zN Tryz.func148 M Tryz.ntmps148 Tryz.results148 M fun fr=>?_
 repeat (first|refine zF ?_|refine zB ?_|refine zE ?_|refine L_box M (c:=[_]) M M M (fun _=>?_))
 rename_i b1 b2
 refine hold_drawV [5,9,10] [0,1,2,3,4,5,6,7,8,9,10,11] 9 6 [.int .i64 0,.int .i64 0,.int .i64 0,.int .i64 0] 80 (by kernel_rfl) M (by kernel_rfl) (by kernel_rfl) (by kernel_rfl) ?_
 repeat (first|refine V_of M M (fun _=>rfl) M M M M ?_|refine V_pure M (zZ M M M) (fun _=>zZ M M M) M M M M ?_|refine V_load M M (fun _=>rfl) (zG M (zS M)) M M M M ?_|refine V_load M M (fun _=>rfl) (zL (vs:=[_,_,_,_,_,_,_]) M M M) M M M M ?_)
 refine V_call M M M M M (zQ M M M) (fun _=>zQ M M M) hfind (Kept.all _) M M M M ?_
 rintro _ _ ⟨rfl,rfl⟩
 refine ⟨zka,?_⟩
 repeat (refine V_of M M (fun _=>rfl) M M M M ?_)
 refine V_now M M M M (fun b7=>?_)
 skip
 refine W_eff M M M M (ev_storeA (vs:=[_,_,_,_]) M M M M (c:=[_,_,_,_]) (Nat.le_of_ble_eq_true M) (c':=[_,_,_,_]) M) (Kept.all _) ?_
 rintro _ _ rfl
 refine ⟨zka,?_⟩
 refine zaD ?_
 repeat (first|refine zF ?_|refine zB ?_|refine zE ?_|refine zK M M M ?_|refine zY M M M M M ?_|refine L_ld M M M M M ?_|refine L_st M M M (c':=[_]) M M M M ?_|refine L_alloc (c:=[_]) M M M (fun _=>?_))
 rename_i b8
 refine yB [7,8,11] [0,1,2,3,4,5,6,7,8,9,10,11] (by kernel_rfl) M (by kernel_rfl) (by kernel_rfl) ?_
 refine zaF ?_
 refine W_eff M M M M (ev_buildSlice (vs:=[_]) (cells:=[_]) M M M M) (Kept.all _) ?_
 rintro _ _ ⟨bn,rfl,rfl⟩
 refine ⟨zka,?_⟩
 skip
 refine W_eff M M M M (ev_appendL (X:=0) (ns:=[rg.group]) (h:=ha) M M k2 (rd_one M) (All2.one M) M M M M M (by rw [List.length_singleton]; omega)) (Kept.all _) ?_
 rintro v5 _ ⟨h5,ho5,rfl⟩
 obtain ⟨a5,c5,rfl⟩:=ho5.shape
 refine ⟨zka,?_⟩
 refine zaN ?_
 refine W_eff M M M M (ev_store M M M M M (c':=[_,_,_,_,_,_,_,_]) M) (.keep (.drop (by kernel_rfl) (.keep (.keep .nil)))) ?_
 rintro _ _ rfl
 refine ⟨zka,?_⟩
 repeat (refine yI ?_)
 skip
 refine yB [17] [0,1,2,3,4,5,6,7,8,9,10,11,12,13,14,15,16,17] (by kernel_rfl) M (by kernel_rfl) (by kernel_rfl) ?_
 refine zeR ?_
 refine yD M M M M (pv_closure (cap:=[_,_,_]) M) ?_
 skip
 have hT3:TxnAt w0 X tb { c.cur with asked:=c.cur.asked++[rg.group] } _:=⟨vr,_,vw',ap,cp,hr,h5,hw,rfl,k1,ho5,k3,k4⟩
 have hP:Parts w0 X b { c with cur:={ c.cur with asked:=c.cur.asked++[rg.group] } } ⟨vmem,vr0,vsets,.slice am c.m.rngs.length cm,vg,ve,vd,vrq,.pointer (some ⟨tb,0,none⟩),vow,vw,vco,vou,van⟩ tb ps hG hE hD hR _ hK hO :=
  Parts.mk P.mem P.rngs0 P.sets P.mr P.guess P.ended P.dbts P.reqs P.opn P.own (.inl hT3) P.waits P.coord P.out P.ansd
 have hP2:=hP.mono (L:=X+(pt b8 (.cells [pB tb].toArray 92 (0,0))+(pt b2 (.cells [.int .i64 blk].toArray 3 (0,0))+pt b1 (.cells [pB b].toArray 24 (0,0))))) M
 have hask:=asks_spec w0 _ b tb { c with cur:={ c.cur with asked:=c.cur.asked++[rg.group] } } _ n ⟨_,ps,hG,hE,hD,hR,_,hK,hO,hP2,rfl⟩ ⟨hB.seq,hB.clock,hB.reqs,hB.ops,hB.out,hB.id⟩ hn rg.group hgr ⟨1,0,0,c.cur.id,c.cur.age,rg.epoch,0,0,blk,0,0,0,0,[],[],[],[]⟩ _ (rd_bare w0 _ _ rfl M M M) later hl (.read blk) (.func (.func 223) #[] [pB b8,pB b2,pB b1].toArray) ⟨b8,b2,b1,rfl,at_box,at_box,at_box⟩
 refine W_call M M M M (zQ M M M) hask (.drop (by kernel_rfl) (.drop (by kernel_rfl) (.drop (by kernel_rfl) (.drop (by kernel_rfl) (.drop (by kernel_rfl) (.drop (by kernel_rfl) (.drop (by kernel_rfl) (.drop (by kernel_rfl) .nil)))))))) ?_
 rintro _ _ ⟨p,S',rfl,hL,rfl⟩
 refine ⟨trivial,?_⟩
 repeat (refine yI ?_)
 skip
 exact ⟨[],_,_,trivial,hL.after,yJ.out⟩
variable (r:Res) (ad:Option Addr) (cp:Nat)
theorem heardRead_spec (hS:CliT w0 X b tb c S) (hB:Bd n c) (hF:Fine c) (hn:n+c.cur.parts.length+c.cur.asked.length+10≤1000000000) (hm:c.m.rngs.length≤1000000000) (ho:c.opn=true) (hid:I64 c.cur.id) (hrl:c.cur.reads.length≤1000000000)
  (hr:RdL w0 X (.slice ad r.data.length cp) r.data) (hlen:r.data.length≤1000000000) (blk:Int) (p q s:Nat) (hp:At w0 X p 0 [pB tb]) (hq:At w0 X q 0 [.int .i64 blk]) (hs:At w0 X s 0 [pB b]) :
  Spec Tryz.prog w0 223 [.agg [.int .i64 r.code,.slice ad r.data.length cp].toArray,pB p,pB q,pB s] (X+S) (fun v h'=>After w0 X b tb (heardF c (.read blk) r) h'):=by
 refine zN Tryz.func223 M Tryz.ntmps223 Tryz.results223 M fun fr=>?_
 repeat (first|refine zF ?_|refine zR ?_|refine zB ?_|refine zE ?_|refine zY M M M M M ?_|refine L_ld M M M M M ?_|refine L_box M (c:=[_,_]) M M M (fun _=>?_))
 refine yF M M (pv_eql M M) (fun h=>?_) (fun h=>?_)
 ·simp only [heardF,if_pos h]
  obtain ⟨⟨vmem,vr0,vsets,vmr,vg,ve,vd,vrq,vop,vow,vw,vco,vou,van⟩,ps,hG,hE,hD,hR,hT,hK,hO,P,rfl⟩:=hS
  have hT2:TxnAt w0 X tb c.cur hT:=by
   rcases P.txn with h|h
   ·exact h
   ·rw [h.1] at ho; cases ho
  obtain ⟨vr,va,vw',ap,cp',hr',ha,hw,rfl,k1,k2,k3,k4⟩:=hT2
  obtain ⟨ar,cr,rfl⟩:=k1.shape
  refine zcX ?_
  refine yB [8,10,11,14] [0,1,2,3,4,5,6,7,8,9,10,11,12,13,14] (by kernel_rfl) M (by kernel_rfl) (by kernel_rfl) ?_
  repeat (first|refine yH M M M M M ?_|refine yD M M M M (zZ M M M) ?_|refine W_load M M M M (yE M) (zG M (zS M)) ?_|refine W_at M M (by assumption) M M M M M ?_)
  refine W_call M M M M (zQ M M M) (cloneBB_spec w0 X _ r.data hr (by omega)) (Kept.all _) ?_
  rintro vc _ ⟨hc,hcl,rfl⟩
  obtain ⟨a4,c4,rfl⟩:=hcl.shape
  have hnew:Rep.rd w0 (X+hc) (⟨blk,r.data⟩:Bof) [.int .i64 blk,.slice a4 r.data.length c4]:=⟨a4,c4,rfl,hcl.plainB.rd (X:=0) (R:=X)⟩
  refine ⟨zka,?_⟩
  repeat (refine yD M M M M (pv_build (vs:=[_,_]) (cells:=[_,_]) M M) ?_)
  refine W_eff M M M M (ev_buildSlice (vs:=[_]) (cells:=[_,_]) M M M M) (Kept.all _) ?_
  rintro _ _ ⟨bn,rfl,rfl⟩
  refine ⟨zka,?_⟩
  skip
  refine W_eff M M M M (ev_appendL (X:=X+hc) (ns:=[_]) (h:=hr') M M (k1.mono M) (rd_one M) (All2.one hnew) M M M M M (by rw [List.length_singleton]; omega)) (Kept.all _) ?_
  rintro v5 _ ⟨h5,ho5,rfl⟩
  obtain ⟨a5,c5,rfl⟩:=ho5.shape
  refine ⟨zka,?_⟩
  refine zaN ?_
  refine W_eff M M M M (ev_store M M M M M (c':=[_,_,_,_,_,_,_,_]) M) (.keep (.keep (.drop (by kernel_rfl) (.keep (.keep .nil))))) ?_
  rintro _ _ rfl
  refine ⟨zka,?_⟩
  repeat (refine yI ?_)
  repeat (first|refine zB ?_|refine zY M M M M M ?_|refine L_ld M M M M M ?_|refine L_at M (by assumption) M M M M ?_|refine L_build (vs:=[_]) (cells:=[_,_,_]) M M M M ?_)
  have P2:=P.mono (L:=X+hc) (R:=hc) M
  have hT3:TxnAt w0 (X+hc) tb { c.cur with reads:=c.cur.reads++[⟨blk,r.data⟩] } _:=⟨_,va,vw',ap,cp',h5,ha,hw,rfl,ho5,k2,k3.mono M,k4.mono M⟩
  have hP:Parts w0 (X+hc) b { c with cur:={ c.cur with reads:=c.cur.reads++[⟨blk,r.data⟩] } } ⟨vmem,vr0,vsets,vmr,vg,ve,vd,vrq,vop,vow,vw,vco,vou,van⟩ tb ps hG hE hD hR _ hK hO :=
   Parts.mk P2.mem P2.rngs0 P2.sets P2.mr P2.guess P2.ended P2.dbts P2.reqs P2.opn P2.own (.inl hT3) P2.waits P2.coord P2.out P2.ansd
  refine zX M M (zQ M M M) (saying_spec w0 (X+hc) b tb { c with cur:={ c.cur with reads:=c.cur.reads++[⟨blk,r.data⟩] } } _ ⟨_,ps,hG,hE,hD,hR,_,hK,hO,hP,rfl⟩ ⟨0,0,r.data⟩ ad cp (hr.mono M)) ?_
  rintro _ _ hA
  repeat (refine zE ?_)
  exact ⟨[],_,_,trivial,hA.after.trans,yJ.out⟩
 ·simp only [heardF,if_neg h]
  refine zaA ?_
  refine yF M M (pv_eql M M) (fun h2=>?_) (fun h2=>?_)
  ·simp only [if_pos h2]
   repeat (first|refine zB ?_|refine zE ?_|refine zK M M M ?_|refine zJ M ?_|refine L_at M (by assumption) M M M M ?_)
   refine zX M M (zQ M M M) (askRead_spec w0 X b tb c S n hS hB (by omega) hF hm ho (by omega) blk 1 (by omega)) ?_
   rintro _ _ hA
   repeat (refine zE ?_)
   exact ⟨[],_,_,trivial,hA,yJ.out⟩
  ·simp only [if_neg h2]
   refine zeP ?_
   refine zX M M (zQ M M M) (losing_spec w0 X b tb c S n hS hB hF hn ho hid r.code) ?_
   rintro _ _ hA
   repeat (refine zE ?_)
   exact ⟨[],_,_,trivial,hA,yJ.out⟩
end
theorem bd_turn {n:Nat} {c:Cl} (hB:Bd n c) (hn:n+1≤1000000000):Bd (n+1) (turnF c):=by
 unfold turnF
 split
 ·exact hB.mono (by omega)
 ·exact Bd.ask (c:={ c with stale:=true }) ⟨hB.seq,hB.clock,hB.reqs,hB.ops,hB.out,hB.id⟩ (by omega) 0 (o:=op0 8) (opSz_bare (by unfold NumsIn I64; simp [op0]) M M M M) 0 true .look
theorem bd_learn {n:Nat} {c:Cl} (hB:Bd n c) (l:List Bt):Bd n (learnF c l):=by
 unfold learnF
 split
 ·exact ⟨hB.seq,hB.clock,hB.reqs,hB.ops,hB.out,hB.id⟩
 ·exact hB
theorem zeS {G G' : Prop} (h : G') (f : Zh G'→G:=by intro h; (repeat (first|refine zF ?_|refine zB ?_|refine zE ?_|refine zK M M M ?_|refine zJ M ?_|refine L_at M (by assumption) M M M M ?_)); exact h.o) : G:=f ⟨h⟩
section
variable (w0:World) (X:Hp) (b tb:Nat) (c:Cl) (S:Hp) (n:Nat)
theorem again_spec (hS:CliT w0 X b tb c S) (hB:Bd n c) (hn:n≤1000000000) (hF:Fine c) (hm:c.m.rngs.length≤1000000000) (x:Cal) (d:Value) (p q:Nat) (hp:At w0 X p 0 [pB b]) (hq:At w0 X q 0 (cellsX x d)) :
  Spec Tryz.prog w0 234 [pB p,pB q] (X+S) (fun v h'=>After w0 X b tb (runW c (.again x)) h'):=by
 refine zN Tryz.func234 M Tryz.ntmps234 Tryz.results234 M fun fr=>?_
 repeat (first|refine zB ?_|refine L_at M (by assumption) M M M M ?_|refine L_atA M (by assumption) M M M M ?_)
 refine zX M M (zQ M M M) (keeping_spec w0 X b tb c S n hS hB hn hF hm x d 0 (by omega)) ?_
 rintro _ _ hA
 repeat (refine zE ?_)
 exact ⟨[],_,_,trivial,hA,yJ.out⟩
theorem keptRun_spec (hS:CliT w0 X b tb c S) (hB:Bd n c) (hn:n≤1000000000) (hF:Fine c) (hm:c.m.rngs.length≤1000000000) (x:Cal) (d:Value) (p q:Nat) (hp:At w0 X p 0 [pB b]) (hq:At w0 X q 0 (cellsX x d)) :
  Spec Tryz.prog w0 156 [pB p,pB q] (X+S) (fun v h'=>After w0 X b tb (runW c (.kept x)) h'):=by
 refine zN Tryz.func156 M Tryz.ntmps156 Tryz.results156 M fun fr=>?_
 repeat (first|refine zB ?_|refine L_at M (by assumption) M M M M ?_|refine L_atA M (by assumption) M M M M ?_)
 refine zX M M (zQ M M M) (keeping_spec w0 X b tb c S n hS hB hn hF hm x d 0 (by omega)) ?_
 rintro _ _ hA
 repeat (refine zE ?_)
 exact ⟨[],_,_,trivial,hA,yJ.out⟩
theorem readRun_spec (hS:CliT w0 X b tb c S) (hB:Bd n c) (hn:n≤1000000000) (hF:Fine c) (hm:c.m.rngs.length≤1000000000) (ho:c.opn=true) (hal:c.cur.asked.length≤1000000000) (x:Cal) (d:Value) (p q:Nat) (hp:At w0 X p 0 [pB b]) (hq:At w0 X q 0 (cellsX x d)) :
  Spec Tryz.prog w0 147 [pB p,pB q] (X+S) (fun v h'=>After w0 X b tb (runW c (.read x)) h'):=by
 refine zN Tryz.func147 M Tryz.ntmps147 Tryz.results147 M fun fr=>?_
 repeat (first|refine zB ?_|refine zY M M M M M ?_|refine L_atf M (by assumption) M M M M ?_|refine L_at M (by assumption) M M M M ?_)
 refine zX M M (zQ M M M) (askRead_spec w0 X b tb c S n hS hB hn hF hm ho hal x.block 0 (by omega)) ?_
 rintro _ _ hA
 repeat (refine zE ?_)
 exact ⟨[],_,_,trivial,hA,yJ.out⟩
variable (r:Res) (ad:Option Addr) (cp:Nat)
theorem heardKept_spec (hS:CliT w0 X b tb c S) (hB:Bd n c) (hF:Fine c) (hn:n+1≤1000000000) (hm:c.m.rngs.length≤1000000000) (hr:RdL w0 X (.slice ad r.data.length cp) r.data) (x:Cal) (d:Value) (p q:Nat) (hp:At w0 X p 0 [pB b]) (hq:At w0 X q 0 (cellsX x d)) :
  Spec Tryz.prog w0 232 [.agg [.int .i64 r.code,.slice ad r.data.length cp].toArray,pB p,pB q] (X+S) (fun v h'=>After w0 X b tb (heardF c (.kept x) r) h'):=by
 have hB1:=bd_turn hB hn
 have hF1:=hF.adds (turnF_adds c)
 have hk1:=adds_keep (turnF_adds c)
 refine zN Tryz.func232 M Tryz.ntmps232 Tryz.results232 M fun fr=>?_
 repeat (first|refine zF ?_|refine zR ?_|refine zB ?_|refine zE ?_|refine zY M M M M M ?_|refine L_ld M M M M M ?_|refine L_box M (c:=[_,_]) M M M (fun _=>?_))
 refine yF M M (pv_eql M M) (fun h=>?_) (fun h=>?_)
 ·simp only [heardF,if_pos h]
  refine zdN ?_
  refine zX M M (zQ M M M) (keeping_spec w0 X b tb c S n hS hB (by omega) hF hm x d 1 (by omega)) ?_
  rintro _ _ hA
  repeat (refine zE ?_)
  exact ⟨[],_,_,trivial,hA,yJ.out⟩
 ·simp only [heardF,if_neg h]
  refine zaA ?_
  refine yF M M (pv_eql M M) (fun h2=>?_) (fun h2=>?_)
  ·simp only [if_pos h2]
   refine zeS ?_
   refine zX M M (zQ M M M) (turn_spec w0 X b tb c S n hS hB (by omega)) ?_
   rintro _ _ ⟨E,S1,hS1,rfl⟩
   have hp1:=hp.mono (L:=X+E) M
   have hq1:=hq.mono (L:=X+E) M
   repeat (first|refine zB ?_|refine zE ?_|refine L_at M (by assumption) M M M M ?_|refine L_clo M M M ?_)
   refine zX M M (zQ M M M) (mapping_spec w0 (X+E) b tb (turnF c) S1 hS1 (.again x) 234 [pB p,pB q] ⟨p,q,d,rfl,hp1,hq1⟩ (fun _=>again_spec w0 (X+E) b tb (turnF c) S1 (n+1) hS1 hB1 hn hF1 (by rw [hk1.2.2.2.2.2.2.2.2.2.2.2.1]; exact hm) x d p q hp1 hq1)) ?_
   rintro _ _ hA
   repeat (refine zE ?_)
   exact ⟨[],_,_,trivial,hA.trans,yJ.out⟩
  ·simp only [if_neg h2]
   repeat (first|refine zB ?_|refine zE ?_|refine zK M M M ?_|refine zY M M M M M ?_|refine L_ld M M M M M ?_|refine zI M ?_|refine L_at M (by assumption) M M M M ?_|refine L_build (vs:=[_,_]) (cells:=[_,_,_]) M M M M ?_)
   refine zX M M (zQ M M M) (saying_spec w0 X b tb c S hS ⟨r.code,0,r.data⟩ ad cp hr) ?_
   rintro _ _ hA
   repeat (refine zE ?_)
   exact ⟨[],_,_,trivial,hA.after,yJ.out⟩
theorem heardFin_spec (hS:CliT w0 X b tb c S) (hB:Bd n c) (hn:n≤1000000000) (hr:RdL w0 X (.slice ad r.data.length cp) r.data) (hlen:r.data.length≤1000000000) (x:Cal) (d:Value) (ep:Int) (hg:grp x.src) (p q s:Nat) (hp:At w0 X p 0 [pB b]) (hq:At w0 X q 0 (cellsX x d)) (hs:At w0 X s 0 [.int .i64 ep]) :
  Spec Tryz.prog w0 300 [.agg [.int .i64 r.code,.slice ad r.data.length cp].toArray,pB p,pB q,pB s] (X+S) (fun v h'=>After w0 X b tb (codeF (quietF (learnF c r.data) x.src.toNat ⟨7,0,0,0,0,ep,0,0,0,0,0,0,0,[],[],[],[]⟩) 0) h'):=by
 refine zN Tryz.func300 M Tryz.ntmps300 Tryz.results300 M fun fr=>?_
 repeat (first|refine zF ?_|refine zB ?_|refine zE ?_|refine zY M M M M M ?_|refine L_ld M M M M M ?_|refine L_at M (by assumption) M M M M ?_|refine L_box M (c:=[_,_]) M M M (fun _=>?_))
 refine zX M M (zQ M M M) (learning_spec w0 X b tb c S hS r.data ad cp hr hlen) ?_
 rintro _ _ ⟨rfl,E,S1,hS1,rfl⟩
 have hp1:=hp.mono (L:=X+E) M
 have hq1:=hq.mono (L:=X+E) M
 have hs1:=hs.mono (L:=X+E) M
 repeat (first|refine zF ?_|refine zB ?_|refine zE ?_|refine zY M M M M M ?_|refine L_atf M (by assumption) M M M M ?_|refine L_at M (by assumption) M M M M ?_|refine L_build (vs:=[_,_]) (cells:=[_,_,_,_,_,_,_,_,_,_,_,_,_,_,_,_,_]) M M M M ?_)
 have hqt:=quiet_spec w0 (X+E) b tb (learnF c r.data) S1 n hS1 (bd_learn hB _) hn x.src.toNat ⟨7,0,0,0,0,ep,0,0,0,0,0,0,0,[],[],[],[]⟩ _ (rd_bare w0 _ _ rfl M M M)
 rw [Int.toNat_of_nonneg hg.1] at hqt
 refine zX M M (zQ M M M) hqt ?_
 rintro _ _ ⟨S2,hS2,rfl⟩
 repeat (first|refine zB ?_|refine zE ?_|refine L_at M (by assumption) M M M M ?_)
 refine zX M M (zQ M M M) (coding_spec w0 (X+E) b tb _ S2 hS2 0) ?_
 rintro _ _ hA
 repeat (refine zE ?_)
 exact ⟨[],_,_,trivial,hA.after.trans,yJ.out⟩
end
theorem cloneInts_spec (w0:World) (X:Hp) (v:Value) (xs:List Int) (hv:RdL w0 X v xs) (hl:xs.length≤1000000000000) :
  Spec Tryz.prog w0 284 [v] X (fun r h'=>∃ h,OwL w0 X xs r h∧X+h=h'):=by
 obtain ⟨es,h1,h2⟩:=id hv
 obtain ⟨a,c,rfl⟩:=hv.shape
 refine zN Tryz.func284 M Tryz.ntmps284 Tryz.results284 M fun fr=>?_
 refine zaC ?_
 refine L_bool M M (pv_slice_isnil M M) (fun h3=>?_) (fun h3=>?_)
 ·obtain rfl:xs=[]:=by
   cases xs with
   | nil=>rfl
   | cons x l =>
    obtain ⟨b,o,rfl,_⟩:=hv.at (i:=0) (by simp)
    simp at h3
  refine zaB ?_
  exact ⟨[_],X,_,⟨rfl,trivial⟩,⟨0,OwL.nil _ none,yA _⟩,yJ.out⟩
 ·repeat (first|refine zF ?_|refine zB ?_|refine zE ?_|refine zK M M M ?_|refine zP ?_|refine zI M ?_|refine L_bs (vs:=[]) (cells:=[]) M M M M M M (fun _=>?_))
  refine L_eff M M (ev_appendL (xs:=([]:List Int)) (h:=0) M M (OwL.nil X _) (h1.frame) h2 M M M M M (by simp; omega)) ?_
  rintro v' _ ⟨h',hr',rfl⟩
  refine zaE ?_
  exact ⟨[_],X+h',_,⟨rfl,trivial⟩,⟨h',hr',rfl⟩,yJ.out⟩
def NewP (me txn:Int) (n:Nat) (acc:Int):Prop:=1≤me∧me≤199∧1≤txn∧txn≤1099511627776∧n≠0∧1≤acc∧acc≤7∧acc % 2≠0
instance (me txn:Int) (n:Nat) (acc:Int):Decidable (NewP me txn n acc):=by unfold NewP; infer_instance
theorem newP_t {me txn:Int} {n:Nat} {acc:Int} (h:¬ NewP me txn n acc):true=true↔¬ NewP me txn n acc:=⟨fun _=>h,fun _=>rfl⟩
theorem newP_f {me txn:Int} {n:Nat} {acc:Int} (h:NewP me txn n acc):false=true↔¬ NewP me txn n acc:=⟨fun e=>(by cases e),fun e=>absurd h e⟩
theorem newOk_eq (me txn:Int) (parts:List Int) (acc:Int):newOk me txn parts acc=(decide (NewP me txn parts.length acc)&&risesF parts 0):=by
 unfold newOk NewP
 congr 1
 refine decide_eq_decide.2 ?_
 rw [show (parts≠[])↔parts.length≠0 by simp]
theorem coNew_spec (w0:World) (X:Hp) (me txn:Int) (parts:List Int) (a:Option Addr) (cp:Nat) (acc:Int) (hv:RdL w0 X (.slice a parts.length cp) parts) (hl:parts.length≤1000000000) :
  Spec Tryz.prog w0 213 [.int .i64 me,.int .i64 txn,.slice a parts.length cp,.int .i64 acc] X
   (fun r h'=>(newOk me txn parts acc=false∧r=.tuple #[.pointer none,.int .i64 3]∧X=h') ∨
    (newOk me txn parts acc=true∧∃ kb K,r=.tuple #[.pointer (some ⟨kb,0,none⟩),.int .i64 0]∧CooAt w0 kb (newC me txn parts acc) K∧X+K=h')):=by
 rw [newOk_eq]
 refine zN Tryz.func213 M Tryz.ntmps213 Tryz.results213 M fun fr=>?_
 refine zF ?_
 refine hold_join (fun g' L'=>Sub g' [(0,.int .i64 me),(1,.int .i64 txn),(2,.slice a parts.length cp),(3,.int .i64 acc)]∧L'=X+fr) ?_ ?_
 ·refine zcN ?_
  exact ⟨zsb,rfl⟩
 rintro g' _ ⟨hsub,rfl⟩
 refine hold_env hsub ?_
 clear hsub g'
 refine zF ?_
 refine hold_join (fun g' L'=>∃ bd:Bool,Sub g' [(0,.int .i64 me),(1,.int .i64 txn),(2,.slice a parts.length cp),(3,.int .i64 acc),(10,.bool bd)]∧(bd=true↔¬ NewP me txn parts.length acc)∧L'=X+fr) ?_ ?_
 ·repeat' (first|refine zB ?_|refine zE ?_|refine zK M M M ?_|refine L_len M M M ?_|refine L_skip M M ?_|refine yF M M (pv_lss M M) (fun _=>?_) (fun _=>?_)|refine yF M M (pv_gtr M M) (fun _=>?_) (fun _=>?_)|refine yF M M (pv_eql M M) (fun _=>?_) (fun _=>?_)|(first|exact ⟨true,zsb,newP_t (by unfold NewP; omega),rfl⟩|exact ⟨false,zsb,newP_f (by unfold NewP; omega),rfl⟩)|done)
  refine yG M M (pv_rem_nn M M (by omega) (by decide)) ?_
  repeat' (first|refine zE ?_|refine zK M M M ?_|refine yF M M (pv_eql M M) (fun _=>?_) (fun _=>?_)|(first|exact ⟨true,zsb,newP_t (by unfold NewP; omega),rfl⟩|exact ⟨false,zsb,newP_f (by unfold NewP; omega),rfl⟩)|done)
 ·rintro g' _ ⟨bd,hsub,hbd,rfl⟩
  refine hold_env hsub ?_
  clear hsub g'
  refine zaS ?_
  refine hold_count parts.length (fun k g L=>∃ (b2:Bool) (last:Int),g=[(0,.int .i64 me),(1,.int .i64 txn),(2,.slice a parts.length cp),(3,.int .i64 acc),(10,.bool b2),(11,.int .i64 last),(46,.slice a parts.length cp),(47,.int .i64 parts.length),(48,.int .i64 k)]∧(bd||!risesF parts 0)=(b2||!risesF (parts.drop k) last)∧L=X+fr) _
   ⟨bd,0,rfl,rfl,rfl⟩ zsb ?_
  rintro k g L hk ⟨b2,last,rfl,hri,rfl⟩
  refine zaH ?_
  refine yF M M (pv_lss M M) (fun n1=>?_) (fun n1=>?_)
  ·have hx:k<parts.length:=by omega
   obtain ⟨bq,oq,rfl,e,rfl,hat⟩:=hv.at hx
   rw [List.drop_eq_getElem_cons hx] at hri
   simp only [risesF] at hri
   generalize parts[k]=p at hri hat
   cases b2
   ·refine zaT ?_
    refine yF M M (pv_leq M M) (fun n2=>?_) (fun n2=>?_)
    ·refine zeB ?_
     exact ⟨hx,_,zsb,true,p,rfl,by rw [hri,decide_eq_false (fun h=>by omega)]; simp,rfl⟩
    ·repeat (refine zK M M M ?_)
     refine yF M M (pv_gtr M M) (fun n3=>?_) (fun n3=>?_)
     ·refine zaI ?_
      exact ⟨hx,_,zsb,true,p,rfl,by rw [hri,decide_eq_false (fun h=>by omega)]; simp,rfl⟩
     ·refine zaI ?_
      exact ⟨hx,_,zsb,false,p,rfl,by rw [hri,decide_eq_true ⟨by omega,by omega⟩]; simp,rfl⟩
   ·repeat (first|refine zF ?_|refine zR ?_|refine zB ?_|refine zE ?_|refine zK M M M ?_|refine L_skip M M ?_|refine zP ?_|refine zJ M ?_|refine L_add M M (by omega) (by omega) M M ?_|refine L_idx M M (by omega) M M ?_|refine L_at M (by assumption) M M M M ?_)
    exact ⟨hx,_,zsb,true,p,rfl,by rw [hri]; simp,rfl⟩
  ·obtain rfl:k=parts.length:=by omega
   rw [List.drop_length] at hri
   simp only [risesF,Bool.not_true,Bool.or_false] at hri
   subst hri
   have hok:(decide (NewP me txn parts.length acc)&&risesF parts 0)=!(bd||!risesF parts 0):=by
    have:decide (NewP me txn parts.length acc)=!bd:=by
     cases bd
     ·exact decide_eq_true (by
        by_cases h:NewP me txn parts.length acc
        ·exact h
        ·have:=hbd.2 h; cases this)
     ·exact decide_eq_false (hbd.1 M)
    rw [this]; simp
   rw [hok]
   generalize (bd||!risesF parts 0)=bb at *
   cases bb
   ·repeat (first|refine zF ?_|refine yC ?_|refine zB ?_|refine zE ?_|refine zK M M M ?_|refine zP ?_|refine zI M ?_)
    refine zX M M (zQ M M M) (cloneInts_spec w0 X _ parts hv (by omega)) ?_
    rintro vc _ ⟨hc,hcl,rfl⟩
    obtain ⟨ac,cc,rfl⟩:=hcl.shape
    repeat (refine zK M M M ?_)
    refine L_eff M M ev_mapNew ?_
    rintro _ _ ⟨ab,rfl,rfl⟩
    skip
    refine L_eff M M ev_mapNew ?_
    rintro _ _ ⟨cb,rfl,rfl⟩
    repeat (first|refine zE ?_|refine zK M M M ?_|refine zM ?_|refine L_build (vs:=[_,_,_,_,_,_]) (cells:=[_,_,_,_,_,_,_,_,_,_,_]) M M M M ?_|refine L_box M (c:=[_,_,_,_,_,_,_,_,_,_,_]) M M M (fun _=>?_))
    rename_i b1
    have hK:CooAt w0 b1 (newC me txn parts acc) (cooC b1 me txn (.slice ac parts.length cc) acc (.map (some ab)) (.map (some cb)) (.bool false) 0 (.map none) (.map none) 0+(hc+(pt ab (.map #[] 0)+(pt cb (.map #[] 0)+(0+0))))) :=
     ⟨⟨.slice ac parts.length cc,.map none,.map none,ab,cb,hc,pt ab (.map #[] 0),pt cb (.map #[] 0),0,0,owL_ints.2 (owL_ints.1 hcl),⟨[],pt ab (.map #[] 0),0,MapAt.empty ab,rfl,(yA _).symm⟩,MapAt.empty cb,⟨rfl,rfl⟩,⟨rfl,rfl⟩,rfl⟩⟩
    refine ⟨[_,_],X+(cooC b1 me txn (.slice ac parts.length cc) acc (.map (some ab)) (.map (some cb)) (.bool false) 0 (.map none) (.map none) 0+(hc+(pt ab (.map #[] 0)+(pt cb (.map #[] 0)+(0+0))))),0,⟨rfl,rfl,trivial⟩,.inr ⟨rfl,b1,_,rfl,hK,rfl⟩,?_⟩
    show cooC b1 me txn (.slice ac parts.length cc) acc (.map (some ab)) (.map (some cb)) (.bool false) 0 (.map none) (.map none) 0+(pt cb (.map #[] 0)+(pt ab (.map #[] 0)+(X+hc+fr)))=_
    generalize cooC b1 me txn (.slice ac parts.length cc) acc (.map (some ab)) (.map (some cb)) (.bool false) 0 (.map none) (.map none) 0=Z
    simp only [yA]
    ac_rfl
   ·repeat (first|refine zF ?_|refine yC ?_|refine zB ?_|refine zE ?_|refine zK M M M ?_|refine zM ?_|refine zJ M ?_|refine zI M ?_)
    exact ⟨[_,_],X,_,⟨rfl,rfl,trivial⟩,.inl ⟨rfl,rfl,rfl⟩,yJ.out⟩
end Sl
end Go.Proofs.YtfahijncpmlhjaaGreat
namespace Go.Proofs.YtfahijncpmlhjaaGreat
open Go Go.RowKit
namespace Sl
section
variable {β:Type}
structure Ordr (lt:β→β→Prop):Prop where
 asym:∀ {a b},lt a b→¬ lt b a
 le:∀ {a b c},¬ lt b a→¬ lt c b→¬ lt c a
def Srt (lt:β→β→Prop) (l:List β):Prop:=l.Pairwise fun a b=>¬ lt b a
variable {lt:β→β→Prop}
theorem srt_one (x:β):Srt lt [x]:=List.pairwise_singleton _ _
theorem srt_app {l m:List β}:Srt lt (l++m)↔Srt lt l∧Srt lt m∧∀ a∈l,∀ b∈m,¬ lt b a:=List.pairwise_append
theorem srt_idx {l:List β} (h:Srt lt l) {i j:Nat} (hj:j<l.length) (hij:i<j):¬ lt l[j] (l[i]'(by omega)):=(List.pairwise_iff_getElem.1 h) i j (by omega) hj hij
theorem Ordr.irr (o:Ordr lt) (a:β):¬ lt a a:=fun h=>o.asym h h
theorem srt_idx' (o:Ordr lt) {l:List β} (h:Srt lt l) {i j:Nat} (hj:j<l.length) (hij:i≤j):¬ lt l[j] (l[i]'(by omega)):=by
 rcases Nat.lt_or_eq_of_le hij with h1|h1
 ·exact srt_idx h hj h1
 ·subst h1; exact o.irr _
theorem srt_mid {l m:List β} {x:β} (hs:Srt lt (l++m)) (h1:∀ a∈l,¬ lt x a) (h2:∀ b∈m,¬ lt b x):Srt lt (l++x::m):=by
 obtain ⟨s1,s2,s3⟩:=srt_app.1 hs
 refine srt_app.2 ⟨s1,List.pairwise_cons.2 ⟨h2,s2⟩,?_⟩
 intro a ha b hb
 rcases List.mem_cons.1 hb with rfl|hb
 ·exact h1 a ha
 ·exact s3 a ha b hb
theorem all_le_last (o:Ordr lt) {l:List β} (hs:Srt lt l) {x:β} (h:∀ h:0<l.length,¬ lt x (l[l.length - 1])):∀ a∈l,¬ lt x a:=by
 intro a ha
 obtain ⟨i,hi,rfl⟩:=List.getElem_of_mem ha
 exact o.le (srt_idx' o hs (j:=l.length - 1) (by omega) (by omega)) (h (by omega))
end
set_option maxHeartbeats 16000000
set_option maxRecDepth 4000
set_option synthInstance.maxHeartbeats 400000
set_option synthInstance.maxSize 100000
attribute [local irreducible] Hold HoldL HoldW
section
variable {α:Type} [ρ:Rep α] {w0:World} {X:Hp}
def AllZ (w0:World) (X:Hp) (zs:List (α × List Value)):Prop:=∀ z∈zs,ρ.rd w0 X z.1 z.2
abbrev rowsZ (zs:List (α × List Value)):List (List Value):=zs.map Prod.snd
abbrev ltc (c:α→α→Int):α × List Value→α × List Value→Prop:=fun p q=>c p.1 q.1<0
theorem AllZ.len {zs:List (α × List Value)} (h:AllZ w0 X zs):∀ e∈rowsZ zs,e.length=ρ.size:=by
 intro e he
 obtain ⟨z,hz,rfl⟩:=List.mem_map.1 he
 exact Rep.len (h z hz)
theorem AllZ.perm {zs zs':List (α × List Value)} (h:AllZ w0 X zs) (p:zs'.Perm zs):AllZ w0 X zs':=fun z hz=>h z (p.mem_iff.1 hz)
theorem AllZ.set {zs:List (α × List Value)} (h:AllZ w0 X zs) {z:α × List Value} (hz:ρ.rd w0 X z.1 z.2) (i:Nat):AllZ w0 X (zs.set i z):=by
 intro y hy
 rcases List.mem_or_eq_of_mem_set hy with hy|rfl
 ·exact h y hy
 ·exact hz
theorem allZ_app {l m:List (α × List Value)}:AllZ w0 X (l++m)↔AllZ w0 X l∧AllZ w0 X m :=
 ⟨fun h=>⟨fun z hz=>h z (List.mem_append_left _ hz),fun z hz=>h z (List.mem_append_right _ hz)⟩,fun ⟨h1,h2⟩ z hz=>(List.mem_append.1 hz).elim (h1 z) (h2 z)⟩
theorem allZ_cons {x:α × List Value} {l:List (α × List Value)}:AllZ w0 X (x::l)↔ρ.rd w0 X x.1 x.2∧AllZ w0 X l :=
 ⟨fun h=>⟨h x (List.mem_cons_self ..),fun z hz=>h z (List.mem_cons_of_mem _ hz)⟩,fun ⟨h1,h2⟩ z hz=>(List.mem_cons.1 hz).elim (fun e=>by rw [e]; exact h1) (h2 z)⟩
theorem AllZ.take {l:List (α × List Value)} (h:AllZ w0 X l) (k:Nat):AllZ w0 X (l.take k):=fun z hz=>h z (List.mem_of_mem_take hz)
theorem AllZ.drop {l:List (α × List Value)} (h:AllZ w0 X l) (k:Nat):AllZ w0 X (l.drop k):=fun z hz=>h z (List.mem_of_mem_drop hz)
theorem z_at {zs:List (α × List Value)} (h:AllZ w0 X zs) {b:Nat} {spare:List Value} {E:TypeId} {fz:Nat × Nat} {i:Nat} {z:α × List Value} (hi:zs[i]?=some z) :
  At w0 (pt b (.cells ((rowsZ zs).flatten++spare).toArray E fz)) b (0+i*ρ.size) z.2:=at_row h.len (by simp [rowsZ,hi])
theorem z_set {zs:List (α × List Value)} (h:AllZ w0 X zs) (spare:List Value) {i:Nat} (hi:i<zs.length) {z:α × List Value} (hz:z.2.length=ρ.size) :
  spliceL (0+i*ρ.size) z.2 ((rowsZ zs).flatten++spare)=(rowsZ (zs.set i z)).flatten++spare:=by
 have e:rowsZ zs=rowsZ (zs.take i)++zs[i].2::rowsZ (zs.drop (i+1)):=by
  show zs.map _=(zs.take i).map _++Prod.snd zs[i]::(zs.drop (i+1)).map _
  rw [← List.map_cons (f:=Prod.snd),← List.drop_eq_getElem_cons hi,← List.map_append,List.take_append_drop]
 have e2:rowsZ (zs.set i z)=rowsZ (zs.take i)++[z.2]++rowsZ (zs.drop (i+1)):=by
  rw [List.set_eq_take_append_cons_drop,if_pos hi]
  simp [rowsZ]
 have hl:(rowsZ (zs.take i)).length=i:=by simp [rowsZ]; omega
 rw [e,e2]
 have hA:=h.len
 rw [e] at hA
 have:=splice_row (fs:=rowsZ (zs.take i)) (rs:=rowsZ (zs.drop (i+1))) (r0:=zs[i].2) (e:=z.2) (spare:=spare) (size:=ρ.size) (fun x hx=>hA x (List.mem_append_left _ hx)) (hA _ (List.mem_append_right _ (List.mem_cons_self ..))) hz
 rw [hl] at this
 exact this
theorem z_room {zs:List (α × List Value)} (h:AllZ w0 X zs) (spare:List Value) {i:Nat} (hi:i<zs.length):0+i*ρ.size+ρ.size≤((rowsZ zs).flatten++spare).length:=by
 rw [List.length_append,length_flat h.len,List.length_map]
 have:=Nat.mul_le_mul_right ρ.size (show i+1≤zs.length by omega)
 rw [Nat.add_mul] at this
 omega
theorem ev_storeZ {P:Program} {L:Hp} {g:Env} {t:TypeId} {sz by':Nat} {zz:Value} [hi:Inf P t sz by' zz] {x y:Operand} {b:Nat} {spare:List Value} {e:TypeId} {R:Hp} {zs:List (α × List Value)} {i:Nat} {z:α × List Value} (h:AllZ w0 X zs) (hil:i<zs.length) (hz:ρ.rd w0 X z.1 z.2)
  (hx:ev g x=some (.pointer (some ⟨b,0+i*ρ.size,none⟩))) (hy:ev g y=some (.agg z.2.toArray)) (hsz:(ρ.size==sz)=true) [hb:HasPt b L (.cells ((rowsZ zs).flatten++spare).toArray e (0,0)) R] :
  EV P w0 L g (.store t x y) fun _ L'=>L'=pt b (.cells ((rowsZ (zs.set i z)).flatten++spare).toArray e (0,0))+R:=by
 have hs:ρ.size=sz:=by simpa using hsz
 refine ev_storeA (c:=(rowsZ zs).flatten++spare) hx hy (by rw [Rep.len hz]; exact hsz) (List.all_eq_true.2 (Rep.one hz)) (by rw [Rep.len hz]; exact z_room h spare hil) (z_set h spare hil (Rep.len hz))
theorem z_len {z:α × List Value} (hz:ρ.rd w0 X z.1 z.2) {sz:Nat} (hs:(ρ.size==sz)=true):(z.2.length==sz)=true:=by rw [Rep.len hz]; exact hs
end
section
variable {β:Type}
theorem adj_get (P S:List β) (x y:β):(P++x::y::S)[P.length]?=some x∧(P++x::y::S)[P.length+1]?=some y:=by
 constructor
 ·simp
 ·rw [List.getElem?_append_right (by omega)]; simp
theorem adj_set' (P S:List β) (x y:β):((P++x::y::S).set (P.length+1) x).set P.length y=P++y::x::S:=by
 rw [List.set_append_right _ _ (by omega),List.set_append_right _ _ (Nat.le_refl _)]
 simp
end
abbrev arrRng (b:Nat) (zs:List (Rng × List Value)) (spare:List Value):Hp:=pt b (.cells ((rowsZ zs).flatten++spare).toArray 80 (0,0))
theorem zbV {G G' : Prop} (h : G') (f : Zh G'→G:=by intro h; (repeat (first|refine yI ?_|refine yH M M M M M ?_|refine W_skip M M M M ?_|refine W_not M M M M ?_)); exact h.o) : G:=f ⟨h⟩
section
variable (w0:World) (X:Hp) (bl n cap:Nat) (spare:List Value) (k0:Nat) [hf:Fun Tryz.prog k0] (caps:List Value) (c:Rng→Rng→Int)
 (hp:∀ Y x y e f,Rep.rd w0 Y x e→Rep.rd w0 Y y f→Spec Tryz.prog w0 k0 (.agg e.toArray::.agg f.toArray::caps) X (fun r h'=>r=.int .i64 (c x y)∧X=h'))
include hp
theorem insertionSortRng_spec (o:Ordr (ltc c)) (a b:Nat) (A U C:List (Rng × List Value)) (hz:AllZ w0 X (A++(U++C))) (ha:a=A.length) (hb:b=A.length+U.length) (hn:n=A.length+U.length+C.length) (hmax:n≤1000000000) :
  Spec Tryz.prog w0 345 [.slice (some ⟨bl,0,none⟩) n cap,.int .i64 (a:Int),.int .i64 (b:Int),.func (.func k0) #[] caps.toArray] (X+arrRng bl (A++(U++C)) spare)
   (fun r h'=>r=.tuple #[]∧∃ W,W.Perm U∧Srt (ltc c) W∧X+arrRng bl (A++(W++C)) spare=h'):=by
 refine zN Tryz.func345 M Tryz.ntmps345 Tryz.results345 M fun fr=>?_
 repeat (first|refine zF ?_|refine zR ?_|refine zB ?_|refine zE ?_|refine zK M M M ?_|refine L_add M M (by omega) (by omega) M M ?_)
 refine hold_count U.length (fun k g L=>∃ (W:List (Rng × List Value)) (R:Hp),g=[(0,.slice (some ⟨bl,0,none⟩) n cap),(1,.int .i64 (a:Int)),(2,.int .i64 (b:Int)),(3,.func (.func k0) #[] caps.toArray),(8,.int .i64 ((a+1+k:Nat):Int))]∧W.Perm (U.take (k+1))∧Srt (ltc c) W ∧
   L=X+arrRng bl (A++(W++(U.drop (k+1)++C))) spare+fr+R) _ ⟨U.take 1,0,rfl,List.Perm.refl _,?_,by rw [← List.append_assoc (U.take 1),List.take_append_drop,yA]⟩ zsb ?_
 ·match U with
  | []=>exact List.Pairwise.nil
  | x::l=>exact srt_one x
 rintro k g L hk ⟨W,R,rfl,hw,hs,rfl⟩
 have hwl:=hw.length_eq
 rw [List.length_take] at hwl
 refine zaW ?_
 refine yF M M (pv_lss M M) (fun n1=>?_) (fun n1=>?_)
 ·have hx:k+1<U.length:=by omega
  have hzA:=hz
  simp only [allZ_app] at hzA
  obtain ⟨zA,zU,zC⟩:=hzA
  have zW:AllZ w0 X W:=(zU.take _).perm hw
  have zy:Rep.rd w0 X U[k+1].1 U[k+1].2:=zU _ (List.getElem_mem hx)
  have zD:AllZ w0 X (U.drop (k+2)):=zU.drop _
  have htk:U.take (k+2)=U.take (k+1)++[U[k+1]]:=List.take_succ_eq_append_getElem hx
  rw [List.drop_eq_getElem_cons hx]
  have hdl:(U.drop (k+2)).length=U.length - (k+2):=List.length_drop ..
  generalize hy:U[k+1]=y at *
  generalize hD:U.drop (k+1+1)=D at *
  refine zbB ?_
  refine hold_count W.length (fun t g L=>∃ (j:Nat) (W1 W2:List (Rng × List Value)) (R:Hp),W=W1++W2∧W2.length=t∧j=a+W1.length∧(∀ w∈W2,ltc c y w)∧g=[(0,.slice (some ⟨bl,0,none⟩) n cap),(1,.int .i64 (a:Int)),(2,.int .i64 (b:Int)),(3,.func (.func k0) #[] caps.toArray),(8,.int .i64 ((a+1+k:Nat):Int)),(9,.int .i64 (j:Int))] ∧
    L=X+arrRng bl (A++(W1++y::(W2++(D++C)))) spare+fr+R) _ ⟨a+1+k,W,[],_,by rw [List.append_nil],rfl,by omega,by simp,rfl,by simp only [List.nil_append,List.cons_append]; exact yJ.out⟩ zsb ?_
  clear R
  rintro t g L ht ⟨j,W1,W2,R,hW,ht2,hj,hlt,rfl,rfl⟩
  have hl12:W.length=W1.length+W2.length:=by rw [hW,List.length_append]
  have zW12:=zW
  rw [hW,allZ_app] at zW12
  have done:(∀ w∈W1,¬ ltc c y w)→(W1++y::W2).Perm (U.take (k+1+1))∧Srt (ltc c) (W1++y::W2):=by
   intro h1
   refine ⟨?_,srt_mid (by rw [← hW]; exact hs) h1 (fun w hw=>o.asym (hlt w hw))⟩
   rw [show U.take (k+1+1)=U.take (k+1)++[y] from htk]
   refine (List.perm_middle).trans ?_
   rw [← hW]
   exact (List.perm_append_comm (l₁:=[y]) (l₂:=W)).trans (hw.append_right _)
  repeat (refine zF ?_)
  refine yB [14] [0,1,2,3,4,5,6,7,8,9,10,11,12,13,14,15,16] (by kernel_rfl) M (by kernel_rfl) (by kernel_rfl) ?_
  repeat (refine yH M M M M M ?_)
  refine W_dec M M M M (pv_gtr M M) (fun n2=>?_) (fun n2=>?_)
  ·obtain ⟨W0,x,rfl⟩:∃ W0 x,W1=W0++[x]:=⟨W1.dropLast,W1.getLast (by intro h; rw [h] at hj; simp at hj; omega),(List.dropLast_concat_getLast _).symm⟩
   rw [List.length_append,List.length_singleton] at hj hl12
   have e1:A++((W0++[x])++y::(W2++(D++C)))=(A++W0)++x::y::(W2++(D++C)):=by simp only [List.append_assoc,List.cons_append,List.nil_append]
   have zx:Rep.rd w0 X x.1 x.2:=zW12.1 x (by simp)
   have hz2:AllZ w0 X ((A++W0)++x::y::(W2++(D++C))):=by
    simp only [allZ_app,allZ_cons]
    exact ⟨⟨zA,(allZ_app.1 zW12.1).1⟩,zx,zy,zW12.2,zD,zC⟩
   have hlen:((A++W0)++x::y::(W2++(D++C))).length=n:=by simp only [List.length_append,List.length_cons]; omega
   obtain ⟨g1,g2⟩:=adj_get (A++W0) (W2++(D++C)) x y
   have gs:=adj_set' (A++W0) (W2++(D++C)) x y
   have hlP:(A++W0).length=j - 1:=by rw [List.length_append]; omega
   rw [hlP] at g1 gs
   rw [hlP,show j - 1+1=j by omega] at g2
   rw [show j - 1+1=j by omega] at gs
   have hat1:=z_at hz2 (b:=bl) (spare:=spare) (E:=80) (fz:=(0,0)) g1
   have hat2:=z_at hz2 (b:=bl) (spare:=spare) (E:=80) (fz:=(0,0)) g2
   have hq1:=z_len zx (sz:=Rep.size Rng) (by simp)
   have hq2:=z_len zy (sz:=Rep.size Rng) (by simp)
   rw [e1]
   repeat (first|refine yH M M M M M ?_|refine W_idx M M M (by omega) M M M ?_)
   refine W_atA M M hat2 hq2 M M M M ?_
   repeat (refine yH M M M M M ?_)
   refine yD M M M M (pv_sub M M (by omega) (by omega)) ?_
   rw [show ((j:Int) - 1)=((j - 1:Nat):Int) by omega]
   repeat (refine W_idx M M M (by omega) M M M ?_)
   refine W_atA M M hat1 hq1 M M M M ?_
   skip
   refine W_call M M M M (zQ M M (by simp<;>rfl)) (hp X y.1 x.1 _ _ zy zx) (Kept.all _) ?_
   rintro _ _ ⟨rfl,rfl⟩
   refine ⟨zka,?_⟩
   refine W_dec M M M M (pv_lss M M) (fun n3=>?_) (fun n3=>?_)
   ·refine zaD ?_
    repeat (first|refine zF ?_|refine zR ?_|refine zP ?_|refine zJ M ?_)
    refine yB [15,17] [0,1,2,3,4,5,6,7,8,9,10,11,12,13,14,15,16,17] (by kernel_rfl) M (by kernel_rfl) (by kernel_rfl) ?_
    repeat (refine yH M M M M M ?_)
    refine yD M M M M (pv_sub M M (by omega) (by omega)) ?_
    rw [show ((j:Int) - 1)=((j - 1:Nat):Int) by omega]
    repeat (refine yH M M M M M ?_)
    refine yD M M M M (pv_sub M M (by omega) (by omega)) ?_
    rw [show ((j:Int) - 1)=((j - 1:Nat):Int) by omega]
    repeat (refine W_idx M M M (by omega) M M M ?_)
    refine W_atA M M hat1 hq1 M M M M ?_
    repeat (first|refine yH M M M M M ?_|refine W_idx M M M (by omega) M M M ?_)
    refine W_atA M M hat2 hq2 M M M M ?_
    repeat (refine W_idx M M M (by omega) M M M ?_)
    refine W_eff (W':=?wk1) M M M M (ev_storeZ hz2 (by omega) zx M M M) ?wkk1 ?wrest1
    case wkk1=>repeat (first|exact Kept.nil|refine Kept.drop (by kernel_rfl) ?_|refine Kept.keep ?_)
    rintro _ _ rfl
    refine ⟨zka,?_⟩
    repeat (refine W_idx M M M (by omega) M M M ?_)
    refine W_eff (W':=?wk2) M M M M (ev_storeZ (hz2.set zx _) (by rw [List.length_set]; omega) zy M M M) ?wkk2 ?wrest2
    case wkk2=>repeat (first|exact Kept.nil|refine Kept.drop (by kernel_rfl) ?_|refine Kept.keep ?_)
    rintro _ _ rfl
    refine ⟨zka,?_⟩
    rw [gs,show (A++W0)++y::x::(W2++(D++C))=A++(W0++y::((x::W2)++(D++C))) by simp only [List.append_assoc,List.cons_append,List.nil_append]]
    repeat (refine yI ?_)
    refine zdE ?_
    rw [show ((j:Int) - 1)=((j - 1:Nat):Int) by omega]
    refine ⟨by omega,_,zsb,j - 1,W0,x::W2,_,by rw [hW]; simp,by rw [List.length_cons,ht2],by omega,?_,rfl,yJ.out⟩
    intro w hw2
    rcases List.mem_cons.1 hw2 with rfl|hw2
    ·exact n3
    ·exact hlt w hw2
   ·refine zaD ?_
    refine zcQ ?_
    rw [← e1,show A++((W0++[x])++y::(W2++(D++C)))=A++(((W0++[x])++y::W2)++(D++C)) by simp only [List.append_assoc,List.cons_append,List.nil_append]]
    obtain ⟨d1,d2⟩:=done (all_le_last o (srt_app.1 (by rw [← hW]; exact hs)).1 (fun h=>by simpa using n3))
    exact ⟨by omega,_,zsb,_,_,rfl,d1,d2,by first|(rw [hD]; done)|(rw [hD]; exact yJ.out)⟩
  ·have hW1:W1=[]:=List.eq_nil_of_length_eq_zero (by omega)
   subst hW1
   refine zbV ?_
   refine zcQ ?_
   rw [show A++([]++y::(W2++(D++C)))=A++(([]++y::W2)++(D++C)) by simp only [List.append_assoc,List.cons_append,List.nil_append]]
   obtain ⟨d1,d2⟩:=done (by simp)
   exact ⟨by omega,_,zsb,_,_,rfl,d1,d2,by first|(rw [hD]; done)|(rw [hD]; exact yJ.out)⟩
 ·rw [List.take_of_length_le (by omega)] at hw
  rw [List.drop_of_length_le (by omega),List.nil_append]
  refine zdB ?_
  exact ⟨[],_,_,trivial,⟨rfl,W,hw,hs,rfl⟩,yJ.out⟩
end
theorem pv_strIndex {P:Program} {g:Env} {t:TypeId} [hu:Und P t .string] {x ix:Operand} {s:ByteArray} {k:IntKind} {i:Nat} (hx:ev g x=some (.string s)) (hix:ev g ix=some (.int k (i:Int))) (h:i<s.size):PV P g (.index t x ix) (.int .u8 (s[i].toNat:Int)):=by
 intro o a w m ho ha; unfold execOp
 simp only [ho,ha.ev hx,ha.ev hix]
 have hs:s[i]?=some s[i]:=getElem?_pos s i h
 simp [Instr.index,asIntOf,run_underlying hu.out,hs]
theorem bitsLen_spec (w0:World) (n:Nat) (hn:n≤12):Spec Tryz.prog w0 342 [.int .u64 (n:Int)] 0 (fun r h'=>(∃ m,r=.int .i64 m)∧0=h'):=by
 refine zN Tryz.func342 M Tryz.ntmps342 Tryz.results342 M fun fr=>?_
 refine zaC ?_
 refine L_no M M (pv_geq M M) (by omega) ?_
 refine zaV ?_
 refine L_no M M (pv_geq M M) (by omega) ?_
 refine zaV ?_
 refine L_no M M (pv_geq M M) (by omega) ?_
 refine zaV ?_
 refine yG M M (pv_conv_to (m:=(n:Int)) M (IntWalk.u8_in _ (by omega))) ?_
 refine yG M M (pv_strIndex M M (Nat.lt_of_le_of_lt hn (by decide +kernel))) ?_
 generalize hb:(_:UInt8).toNat=q
 have hq:q<256:=by rw [← hb]; exact UInt8.toNat_lt _
 clear hb
 refine yG M M (pv_conv_in M (by omega) (by omega)) ?_
 repeat (first|refine zE ?_|refine zK M M M ?_|refine zM ?_|refine L_add M M (by omega) (by omega) M M ?_)
 exact ⟨[_],0,_,⟨rfl,trivial⟩,⟨⟨_,rfl⟩,rfl⟩,yJ.out⟩
theorem bitsLen2_spec (w0:World) (n:Nat) (hn:n≤12):Spec Tryz.prog w0 283 [.int .u64 (n:Int)] 0 (fun r h'=>(∃ m,r=.int .i64 m)∧0=h'):=by
 refine zN Tryz.func283 M Tryz.ntmps283 Tryz.results283 M fun fr=>?_
 refine zaV ?_
 refine zX M M (zQ M M M) (bitsLen_spec w0 n hn) ?_
 rintro _ _ ⟨⟨m,rfl⟩,rfl⟩
 refine zaE ?_
 exact ⟨[_],0,_,⟨rfl,trivial⟩,⟨⟨_,rfl⟩,rfl⟩,yJ.out⟩
theorem zeT {G G' : Prop} (h : G') (f : Zh G'→G:=by intro h; (repeat (first|refine zF ?_|refine zR ?_|refine zB ?_|refine zE ?_|refine zK M M M ?_|refine L_sub M M (by omega) (by omega) M M ?_)); exact h.o) : G:=f ⟨h⟩
section
variable (w0:World) (X:Hp) (bl n cap:Nat) (spare:List Value) (k0:Nat) [hf:Fun Tryz.prog k0] (caps:List Value) (c:Rng→Rng→Int)
 (hp:∀ Y x y e f,Rep.rd w0 Y x e→Rep.rd w0 Y y f→Spec Tryz.prog w0 k0 (.agg e.toArray::.agg f.toArray::caps) X (fun r h'=>r=.int .i64 (c x y)∧X=h'))
include hp
theorem pdqRng_spec (o:Ordr (ltc c)) (lim:Int) (U:List (Rng × List Value)) (hz:AllZ w0 X U) (hn:n=U.length) (hmax:n≤12) :
  Spec Tryz.prog w0 293 [.slice (some ⟨bl,0,none⟩) n cap,.int .i64 0,.int .i64 (n:Int),.int .i64 lim,.func (.func k0) #[] caps.toArray] (X+arrRng bl U spare)
   (fun r h'=>∃ W,W.Perm U∧Srt (ltc c) W∧X+arrRng bl W spare=h'):=by
 have hins:=insertionSortRng_spec w0 X bl n cap spare k0 caps c hp o 0 n [] U [] (by simpa using hz) M (by simpa using hn) (by simpa using hn) (by omega)
 simp only [List.nil_append,List.append_nil] at hins
 refine zN Tryz.func293 M Tryz.ntmps293 Tryz.results293 M fun fr=>?_
 refine zaC ?_
 refine zR ?_
 refine hold_loop_of (holdR ?_)
 refine zeT ?_
 refine L_yes M M (pv_leq M M) (by omega) ?_
 refine zaY ?_
 refine zX M M (zQ M M M) hins ?_
 rintro _ _ ⟨rfl,W,h1,h2,rfl⟩
 refine zbI ?_
 exact ⟨[],_,_,trivial,⟨W,h1,h2,rfl⟩,yJ.out⟩
omit hf hp in
theorem ins0_spec (v vf:Value):Spec Tryz.prog w0 345 [v,.int .i64 0,.int .i64 0,vf] 0 (fun r h'=>0=h'):=by
 refine zN Tryz.func345 M Tryz.ntmps345 Tryz.results345 M fun fr=>?_
 refine zcW ?_
 refine zR ?_
 refine hold_loop_of (holdR ?_)
 refine zaW ?_
 refine L_no M M (pv_lss M M) (by omega) ?_
 refine zdB ?_
 exact ⟨[],0,_,trivial,rfl,yJ.out⟩
omit hf hp in
theorem pdq0_spec (v vf:Value) (lim:Int):Spec Tryz.prog w0 293 [v,.int .i64 0,.int .i64 0,.int .i64 lim,vf] 0 (fun r h'=>0=h'):=by
 refine zN Tryz.func293 M Tryz.ntmps293 Tryz.results293 M fun fr=>?_
 refine zaC ?_
 refine zR ?_
 refine hold_loop_of (holdR ?_)
 refine zeT ?_
 refine L_yes M M (pv_leq M M) (by omega) ?_
 refine zaY ?_
 refine zX M M (zQ M M M) (ins0_spec w0 v vf) ?_
 rintro _ _ rfl
 refine zbI ?_
 exact ⟨[],0,_,trivial,rfl,yJ.out⟩
omit hf hp in
theorem zip_all2 {w0:World} {X:Hp}:∀ {l:List Rng} {es:List (List Value)},All2 (Rep.rd w0 X) l es→AllZ w0 X (l.zip es)∧rowsZ (l.zip es)=es∧(l.zip es).map Prod.fst=l
 | [],[],_=>⟨by intro z hz; simp at hz,rfl,rfl⟩
 | x::l,e::es,h=>by
  obtain ⟨a,b,d⟩:=zip_all2 h.2
  refine ⟨?_,?_,?_⟩
  ·intro z hz
   rw [List.zip_cons_cons,List.mem_cons] at hz
   rcases hz with rfl|hz
   ·exact h.1
   ·exact a z hz
  ·simp only [rowsZ,List.zip_cons_cons,List.map_cons] at b ⊢; rw [b]
  ·simp only [List.zip_cons_cons,List.map_cons,d]
 | [],_::_,h=>h.elim
 | _::_,[],h=>h.elim
omit hf hp in
theorem all2_zip {w0:World} {X:Hp}:∀ {W:List (Rng × List Value)},AllZ w0 X W→All2 (Rep.rd w0 X) (W.map Prod.fst) (rowsZ W)
 | [],_=>trivial
 | z::W,h=>⟨h z (by simp),all2_zip fun y hy=>h y (by simp [hy])⟩
theorem sortFuncRng_spec (o:Ordr (ltc c)) (l:List Rng) (v:Value) (h:Hp) (hv:OwL w0 X l v h) (hl:l.length≤12) :
  Spec Tryz.prog w0 228 [v,.func (.func k0) #[] caps.toArray] (X+h) (fun r h'=>∃ l2 h2,l2.Perm l∧(l2.Pairwise fun a b=>¬ c b a<0)∧OwL w0 X l2 v h2∧X+h2=h'):=by
 obtain ⟨a,cp,rfl⟩:=hv.shape
 obtain ⟨es,h1,h2⟩:=id hv
 have hes:=h2.length
 refine zN Tryz.func228 M Tryz.ntmps228 Tryz.results228 M fun fr=>?_
 refine zaX ?_
 refine yG M M (pv_conv_to (m:=(l.length:Int)) M (IntWalk.u64_in _ (by omega))) ?_
 refine zX M M (zQ M M M) (bitsLen2_spec w0 l.length hl) ?_
 rintro _ _ ⟨⟨m,rfl⟩,rfl⟩
 repeat (refine zK M M M ?_)
 by_cases hne:es=[]
 ·subst hne
  obtain rfl:l=[]:=List.eq_nil_of_length_eq_zero (by simpa using hes.symm)
  refine zX M M (zQ M M M) (pdq0_spec w0 (.slice a 0 cp) (.func (.func k0) #[] caps.toArray) m) ?_
  rintro _ _ rfl
  repeat (refine zE ?_)
  exact ⟨[],X+h,_,trivial,⟨[],h,List.Perm.refl _,List.Pairwise.nil,hv,rfl⟩,yJ.out⟩
 ·obtain ⟨bl,cap,spare,e1,rfl,hes1,hcap,hmax,hsp⟩:=h1.nonempty hne
  simp only [Value.slice.injEq] at e1
  obtain ⟨rfl,-,rfl⟩:=e1
  obtain ⟨z1,z2,z3⟩:=zip_all2 h2
  have hp2:=pdqRng_spec w0 X bl l.length cp spare k0 caps c hp o m (l.zip es) z1 (by rw [List.length_zip,hes]; simp) hl
  rw [arrRng,z2] at hp2
  refine zX M M (zQ M M M) hp2 ?_
  rintro _ _ ⟨W,hW,hS,rfl⟩
  repeat (refine zE ?_)
  have hWl:W.length=l.length:=by rw [hW.length_eq,List.length_zip,hes]; simp
  have hZ:=z1.perm hW
  refine ⟨[],X+arrRng bl W spare,_,trivial,⟨W.map Prod.fst,arrRng bl W spare,?_,?_,?_,rfl⟩,yJ.out⟩
  ·have:=hW.map Prod.fst; rwa [z3] at this
  ·exact List.pairwise_map.2 hS
  ·have hlen:(rowsZ W).length=es.length:=by simp [rowsZ,hWl,hes]
   have:=isRow_block (E:=80) (size:=4) (xs:=rowsZ W) (b:=bl) (cap:=cp) (spare:=spare) hZ.len (by rw [hlen]; exact hcap) hmax (by rw [hlen]; exact hsp)
   rw [hlen,hes] at this
   exact ⟨rowsZ W,this,all2_zip hZ⟩
end
set_option maxHeartbeats 4000000
theorem containsFuncBof_spec (w0:World) (X:Hp) (v:Value) (xs:List Bof) (k0:Nat) [hf:Fun Tryz.prog k0] (caps:List Value) (p:Bof→Bool) (hv:RdL w0 X v xs) (hl:xs.length≤1000000000)
  (hp:∀ Y x e,x∈xs→Rep.rd w0 Y x e→Spec Tryz.prog w0 k0 (.agg e.toArray::caps) X (fun r h'=>r=.bool (p x)∧X=h')) :
  Spec Tryz.prog w0 290 [v,.func (.func k0) #[] caps.toArray] X (fun r h'=>r=.bool (xs.any p)∧X=h'):=by
 have hi:=indexFuncBof_spec w0 X v xs k0 caps p hv hl hp
 obtain ⟨a,c,rfl⟩:=hv.shape
 refine zN Tryz.func290 M Tryz.ntmps290 Tryz.results290 M fun fr=>?_
 refine zaC ?_
 refine zX M M (zQ M M M) hi ?_
 rintro _ _ ⟨rfl,rfl⟩
 refine yG M M (pv_geq M M) ?_
 refine zaE ?_
 exact ⟨[_],X,_,⟨rfl,trivial⟩,⟨by rw [idxF_nonneg]; rfl,rfl⟩,yJ.out⟩
abbrev cellsR (r:Rng):List Value:=[.int .i64 r.lo,.int .i64 r.hi,.int .i64 r.group,.int .i64 r.epoch]
theorem zeU {G G' : Prop} (h : G') (f : Zh G'→G:=by intro h; (repeat (first|refine zF ?_|refine zB ?_|refine zE ?_|refine zK M M M ?_|refine zY M M M M M ?_|refine L_atf M (by assumption) M M M M ?_)); exact h.o) : G:=f ⟨h⟩
section
variable (w0:World) (X:Hp)
theorem of1t_spec (r:Rng) (n:Int) (bx:Nat) (h:At w0 X bx 0 (cellsR r)):Spec Tryz.prog w0 289 [.int .i64 n,pB bx] X (fun v h'=>v=.bool (mineF r n)∧X=h'):=by
 refine zN Tryz.func289 M Tryz.ntmps289 Tryz.results289 M fun fr=>?_
 refine zeU ?_
 refine yF M M (pv_geq M M) (fun n1=>?_) (fun n1=>?_)
 ·repeat (first|refine zK M M M ?_|refine zY M M M M M ?_|refine L_atf M (by assumption) M M M M ?_)
  refine yG M M (pv_lss M M) ?_
  refine zaE ?_
  exact ⟨[_],X,_,⟨rfl,trivial⟩,⟨congrArg Value.bool (decide_eq_decide.2 ⟨fun h=>⟨by omega,h⟩,fun h=>h.2⟩),rfl⟩,yJ.out⟩
 ·refine zbJ ?_
  exact ⟨[_],X,_,⟨rfl,trivial⟩,⟨congrArg Value.bool (decide_eq_false (fun h=>n1 (by omega))).symm,rfl⟩,yJ.out⟩
theorem prepared1_spec (r:Rng) (n:Int) (bx:Nat) (h:At w0 X bx 0 (cellsR r)):Spec Tryz.prog w0 295 [.int .i64 n,pB bx] X (fun v h'=>v=.bool (mineF r n)∧X=h'):=by
 refine zN Tryz.func295 M Tryz.ntmps295 Tryz.results295 M fun fr=>?_
 refine zeU ?_
 refine yF M M (pv_geq M M) (fun n1=>?_) (fun n1=>?_)
 ·repeat (first|refine zK M M M ?_|refine zY M M M M M ?_|refine L_atf M (by assumption) M M M M ?_)
  refine yG M M (pv_lss M M) ?_
  refine zaE ?_
  exact ⟨[_],X,_,⟨rfl,trivial⟩,⟨congrArg Value.bool (decide_eq_decide.2 ⟨fun h=>⟨by omega,h⟩,fun h=>h.2⟩),rfl⟩,yJ.out⟩
 ·refine zbJ ?_
  exact ⟨[_],X,_,⟨rfl,trivial⟩,⟨congrArg Value.bool (decide_eq_false (fun h=>n1 (by omega))).symm,rfl⟩,yJ.out⟩
theorem of2t_spec (r:Rng) (x:Bof) (a:Option Addr) (cp bx bf:Nat) (h:At w0 X bx 0 (cellsR r)) (hf:At w0 X bf 0 [.func (.func 289) #[] [pB bx].toArray]):Spec Tryz.prog w0 291 [.agg [.int .i64 x.block,.slice a x.data.length cp].toArray,pB bf] X (fun v h'=>v=.bool (mineF r x.block)∧X=h'):=by
 refine zN Tryz.func291 M Tryz.ntmps291 Tryz.results291 M fun fr=>?_
 repeat (first|refine zF ?_|refine zB ?_|refine zE ?_|refine zK M M M ?_|refine zY M M M M M ?_|refine L_ld M M M M M ?_|refine L_at M (by assumption) M M M M ?_|refine L_box M (c:=[_,_]) M M M (fun _=>?_))
 refine zX M M (zQ M M (by simp<;>rfl)) (of1t_spec w0 X r x.block bx h) ?_
 rintro _ _ ⟨rfl,rfl⟩
 refine zaE ?_
 exact ⟨[_],X,_,⟨rfl,trivial⟩,⟨rfl,rfl⟩,yJ.out⟩
theorem of3t_spec (r:Rng) (x:Wr) (a:Option Addr) (cp bx bf:Nat) (h:At w0 X bx 0 (cellsR r)) (hf:At w0 X bf 0 [.func (.func 289) #[] [pB bx].toArray]):Spec Tryz.prog w0 292 [.agg [.int .i64 x.block,.slice a x.data.length cp].toArray,pB bf] X (fun v h'=>v=.bool (mineF r x.block)∧X=h'):=by
 refine zN Tryz.func292 M Tryz.ntmps292 Tryz.results292 M fun fr=>?_
 repeat (first|refine zF ?_|refine zB ?_|refine zE ?_|refine zK M M M ?_|refine zY M M M M M ?_|refine L_ld M M M M M ?_|refine L_at M (by assumption) M M M M ?_|refine L_box M (c:=[_,_]) M M M (fun _=>?_))
 refine zX M M (zQ M M (by simp<;>rfl)) (of1t_spec w0 X r x.block bx h) ?_
 rintro _ _ ⟨rfl,rfl⟩
 refine zaE ?_
 exact ⟨[_],X,_,⟨rfl,trivial⟩,⟨rfl,rfl⟩,yJ.out⟩
theorem offTxn_spec (tb:Nat) (t:Txn) (h:Hp) (H:TxnAt w0 X tb t h) (r:Rng) (hl:t.reads.length≤1000000000∧t.writes.length≤1000000000) :
  Spec Tryz.prog w0 227 [pB tb,.agg (cellsR r).toArray] (X+h) (fun v h'=>v=.bool (ofF t r)∧X+h=h'):=by
 obtain ⟨vr,va,vw,ap,cp,hr,ha,hw,rfl,k1,k2,k3,k4⟩:=H
 obtain ⟨ar,cr,rfl⟩:=k1.shape
 obtain ⟨aw,cw,rfl⟩:=k3.shape
 unfold ofF
 refine zN Tryz.func227 M Tryz.ntmps227 Tryz.results227 M fun fr=>?_
 repeat (first|refine zF ?_|refine zB ?_|refine zE ?_|refine zK M M M ?_|refine L_st M M M (c':=[_]) M M M M ?_|refine L_box M (c:=[_,_,_,_]) M M M (fun _=>?_)|refine L_alloc (c:=[_]) M M M (fun _=>?_)|refine L_clo M M M ?_)
 rename_i b3 b5
 have hat3:At w0 (X+hr+hw+(pt b3 (.cells (cellsR r).toArray 80 (0,0))+pt b5 (.cells [.func (.func 289) #[] [pB b3].toArray].toArray 76 (0,0)))) b3 0 (cellsR r):=at_box
 have hat5:At w0 (X+hr+hw+(pt b3 (.cells (cellsR r).toArray 80 (0,0))+pt b5 (.cells [.func (.func 289) #[] [pB b3].toArray].toArray 76 (0,0)))) b5 0 [.func (.func 289) #[] [pB b3].toArray]:=at_box
 have hr1:=containsFuncBof_spec w0 (X+hr+hw+(pt b3 (.cells (cellsR r).toArray 80 (0,0))+pt b5 (.cells [.func (.func 289) #[] [pB b3].toArray].toArray 76 (0,0)))) (.slice ar t.reads.length cr) t.reads 291 [pB b5] (fun x=>mineF r x.block) k1.rd hl.1 (fun Y x e hx he=>by
  obtain ⟨a,c,rfl,_⟩:=he
  exact of2t_spec w0 _ r x a c b3 b5 hat3 hat5)
 have hr2:=containsFuncWr_spec w0 (X+hr+hw+(pt b3 (.cells (cellsR r).toArray 80 (0,0))+pt b5 (.cells [.func (.func 289) #[] [pB b3].toArray].toArray 76 (0,0)))) (.slice aw t.writes.length cw) t.writes 292 [pB b5] (fun x=>mineF r x.block) k3.rd hl.2 (fun Y x e hx he=>by
  obtain ⟨a,c,rfl,_⟩:=he
  exact of3t_spec w0 _ r x a c b3 b5 hat3 hat5)
 refine yB [5,12] [0,1,2,3,4,5,6,7,8,9,10,11,12,13,14,15,16,17,18,19,20,21,22,23,24,25,26,27,28,29,30,31,32,33] (by kernel_rfl) M (by kernel_rfl) (by kernel_rfl) ?_
 refine zaF ?_
 refine yD M M M M (pv_closure (cap:=[_]) M) ?_
 skip
 refine W_call M M M M (zQ M M M) hr1 (Kept.all _) ?_
 rintro _ _ ⟨rfl,rfl⟩
 refine ⟨zka,?_⟩
 cases t.reads.any fun x=>mineF r x.block
 ·refine zaF ?_
  refine yD M M M M (pv_closure (cap:=[_]) M) ?_
  skip
  refine W_call M M M M (zQ M M M) hr2 (Kept.all _) ?_
  rintro _ _ ⟨rfl,rfl⟩
  refine ⟨zka,?_⟩
  cases t.writes.any fun w=>mineF r w.block
  ·refine zaF ?_
   refine yD M M M M (pv_max M M) ?_
   refine zaF ?_
   refine yD M M M M (pv_min M M) ?_
   skip
   refine yD M M M M (pv_lss M M) ?_
   refine zaD ?_
   repeat (refine zM ?_)
   exact ⟨[_],_,_,⟨rfl,trivial⟩,⟨congrArg Value.bool (decide_eq_decide.2 (by split<;>split<;>omega)),rfl⟩,yJ.out⟩
  ·refine zaQ ?_
   repeat (refine zM ?_)
   exact ⟨[_],_,_,⟨rfl,trivial⟩,⟨rfl,rfl⟩,yJ.out⟩
 ·refine zbV ?_
  repeat (refine zM ?_)
  exact ⟨[_],_,_,⟨rfl,trivial⟩,⟨rfl,rfl⟩,yJ.out⟩
theorem prepare1_spec (x y:Rng) (e f:List Value) (Y Z:Hp) (he:Rep.rd w0 Y x e) (hf:Rep.rd w0 Z y f):Spec Tryz.prog w0 229 [.agg e.toArray,.agg f.toArray] X (fun r h'=>r=.int .i64 (cmpI x.group y.group)∧X=h'):=by
 obtain rfl:=he
 obtain rfl:=hf
 refine zN Tryz.func229 M Tryz.ntmps229 Tryz.results229 M fun fr=>?_
 repeat (first|refine zF ?_|refine zB ?_|refine zE ?_|refine zK M M M ?_|refine zY M M M M M ?_|refine L_ld M M M M M ?_|refine L_box M (c:=[_,_,_,_]) M M M (fun _=>?_))
 refine zX M M (zQ M M M) (compare_spec w0 x.group y.group) ?_
 rintro _ _ ⟨rfl,rfl⟩
 refine zaE ?_
 exact ⟨[_],X,_,⟨rfl,trivial⟩,⟨rfl,rfl⟩,yJ.out⟩
end
def readsF (t:Txn) (r:Rng) (k:Nat):List Int:=((t.reads.take k).filter fun x=>mineF r x.block).map (·.block)
theorem readsF_succ (t:Txn) (r:Rng) {k:Nat} (hx:k<t.reads.length):readsF t r (k+1)=readsF t r k++(if mineF r t.reads[k].block=true then [t.reads[k].block] else []):=by
 unfold readsF
 rw [List.take_succ_eq_append_getElem hx,List.filter_append,List.map_append]
 congr 1
 by_cases h:mineF r t.reads[k].block=true<;>simp [h]
theorem readsF_le (t:Txn) (r:Rng) (k:Nat):(readsF t r k).length≤t.reads.length:=by
 unfold readsF
 rw [List.length_map]
 refine Nat.le_trans (List.length_filter_le _ _) ?_
 rw [List.length_take]; omega
def writesF (t:Txn) (r:Rng) (k:Nat):List Wr:=(t.writes.take k).filter fun x=>mineF r x.block
theorem writesF_succ (t:Txn) (r:Rng) {k:Nat} (hx:k<t.writes.length):writesF t r (k+1)=writesF t r k++(if mineF r t.writes[k].block=true then [t.writes[k]] else []):=by
 unfold writesF
 rw [List.take_succ_eq_append_getElem hx,List.filter_append]
 congr 1
 by_cases h:mineF r t.writes[k].block=true<;>simp [h]
theorem writesF_le (t:Txn) (r:Rng) (k:Nat):(writesF t r k).length≤t.writes.length:=by
 unfold writesF
 refine Nat.le_trans (List.length_filter_le _ _) ?_
 rw [List.length_take]; omega
theorem OwL.at {α:Type} [ρ:Rep α] {w0:World} {X h:Hp} {ad:Option Addr} {n c:Nat} {xs:List α} (H:OwL w0 X xs (.slice ad n c) h) {i:Nat} (hi:i<xs.length):∃ b o,ad=some ⟨b,o,none⟩∧∃ e,ρ.rd w0 X xs[i] e∧At w0 h b (o+i*ρ.size) e:=by
 obtain ⟨es,h1,h2⟩:=H
 have h1':RdRow w0 h ρ.size (.slice ad n c) es:=h1.rd (L:=h) (R:=0)
 obtain ⟨_,h3⟩:=h1'.at
 obtain ⟨e,he,hr⟩:=h2.get hi
 obtain ⟨b,o,rfl,hat⟩:=h3.2 i e he
 exact ⟨b,o,rfl,e,hr,hat⟩
theorem zeV {G G' : Prop} (h : G') (f : Zh G'→G:=by intro h; (repeat (first|refine zB ?_|refine zE ?_|refine zK M M M ?_|refine zY M M M M M ?_|refine L_add M M (by omega) (by omega) M M ?_|refine L_st M M M (c':=[_,_,_,_,_,_,_,_,_,_,_,_,_,_,_,_,_]) M M M M ?_)); exact h.o) : G:=f ⟨h⟩
section
variable (w0:World) (X:Hp)
theorem prepare_spec (b tb:Nat) (t:Txn) (h:Hp) (H:TxnAt w0 X tb t h) (r:Rng) (hl:t.reads.length≤1000000000∧t.writes.length≤1000000000) :
  Spec Tryz.prog w0 231 [pB b,pB tb,.agg (cellsR r).toArray] (X+h) (fun v h'=>∃ E e,v=.agg e.toArray∧Rep.rd w0 (X+E) (preparedF t r) e∧X+E+h=h'):=by
 obtain ⟨vr,va,vw,ap,cp,hr,ha,hw,rfl,k1,k2,k3,k4⟩:=H
 obtain ⟨ar,cr,rfl⟩:=k1.shape
 obtain ⟨aw,cw,rfl⟩:=k3.shape
 have hrd:RdL w0 (X+hr) (.slice ar t.reads.length cr) t.reads:=k1.rd0
 have hwd:RdL w0 (X+hw) (.slice aw t.writes.length cw) t.writes:=k3.rd0
 refine zN Tryz.func231 M Tryz.ntmps231 Tryz.results231 M fun fr=>?_
 repeat (first|refine zF ?_|refine zB ?_|refine zE ?_|refine L_box M (c:=[_,_,_,_]) M M M (fun _=>?_)|refine L_alloc (c:=[_,_,_,_,_,_,_,_,_,_,_,_,_,_,_,_,_]) M M M (fun _=>?_))
 rename_i b5 b6
 refine yB [15,16] [0,1,2,3,4,5,6,7,8,9,10,11,12,13,14,15,16] (by kernel_rfl) M (by kernel_rfl) (by kernel_rfl) ?_
 refine zeR ?_
 refine W_eff M M M M ev_alloc (Kept.all _) ?_
 rintro _ _ ⟨b7,rfl,hL⟩
 have hL':_=pt b7 (.cells (.int .i64 0::.int .i64 0::.int .i64 0::.int .i64 0::.int .i64 0::.int .i64 0::.int .i64 0::.int .i64 0::.int .i64 0::.int .i64 0::.int .i64 0::.int .i64 0::.int .i64 0::.slice none 0 0::.slice none 0 0::.slice none 0 0::.slice none 0 0::[]).toArray 63 (0,0))+_:=hL
 subst hL'
 clear hL
 refine ⟨zka,?_⟩
 skip
 refine W_eff M M M M (ev_storeA (vs:=[_,_,_,_,_,_,_,_,_,_,_,_,_,_,_,_,_]) M M M M (c:=[_,_,_,_,_,_,_,_,_,_,_,_,_,_,_,_,_]) (Nat.le_of_ble_eq_true M) (c':=[_,_,_,_,_,_,_,_,_,_,_,_,_,_,_,_,_]) M) (Kept.all _) ?_
 rintro _ _ rfl
 refine ⟨zka,?_⟩
 repeat (refine yI ?_)
 repeat (first|refine zF ?_|refine zR ?_|refine zB ?_|refine zE ?_|refine zK M M M ?_|refine zY M M M M M ?_|refine L_ld M M M M M ?_|refine L_len M M M ?_|refine L_clo M M M ?_)
 refine hold_count t.reads.length (fun k g L=>∃ (af:Option Addr) (cf:Nat) (ho R:Hp),g=[(1,pB tb),(6,pB b6),(7,pB b7),(8,.func (.func 295) #[] [pB b5].toArray),(32,.slice ar t.reads.length cr),(33,.int .i64 t.reads.length),(34,.int .i64 k)] ∧
  OwL w0 0 (readsF t r k) (.slice af (readsF t r k).length cf) ho ∧
  L=pt b7 (.cells (.int .i64 2::.int .i64 0::.int .i64 0::.int .i64 t.id::.int .i64 t.age::.int .i64 r.epoch::.int .i64 0::.int .i64 0::.int .i64 0::.int .i64 0::.int .i64 0::.int .i64 0::.int .i64 0::.slice ap t.parts.length cp::.slice af (readsF t r k).length cf::.slice none 0 0::.slice none 0 0::[]).toArray 63 (0,0))+(pt b6 (.cells (.int .i64 0::.int .i64 0::.int .i64 0::.int .i64 0::.int .i64 0::.int .i64 0::.int .i64 0::.int .i64 0::.int .i64 0::.int .i64 0::.int .i64 0::.int .i64 0::.int .i64 0::.slice none 0 0::.slice none 0 0::.slice none 0 0::.slice none 0 0::[]).toArray 63 (0,0))+(pt b5 (.cells (cellsR r).toArray 80 (0,0))+(X+(txnC tb (.int .i64 t.id::.int .i64 t.age::.slice ar t.reads.length cr::va::.slice aw t.writes.length cw::.slice ap t.parts.length cp::.int .i64 t.slo::.int .i64 t.shi::[])+(hr+(ha+hw)))+fr)))+ho+R) _
  ⟨none,0,0,0,rfl,OwL.nil _ _,by rw [show (readsF t r 0).length=0 from rfl,yA,yA]⟩ zsb ?_
 rintro k g L hk ⟨af,cf,ho,R,rfl,hof,rfl⟩
 refine zaH ?_
 refine yF M M (pv_lss M M) (fun n1=>?_) (fun n1=>?_)
 ·have hx:k<t.reads.length:=by omega
  obtain ⟨bq,oq,rfl,e,hre,hat⟩:=hrd.at hx
  obtain ⟨a1,c1,rfl,he⟩:=id hre
  have hfk:=readsF_le t r k
  repeat (first|refine zF ?_|refine zR ?_|refine zB ?_|refine zE ?_|refine zK M M M ?_|refine zY M M M M M ?_|refine L_ld M M M M M ?_|refine zP ?_|refine zJ M ?_|refine L_idx M M (by omega) M M ?_|refine L_atA M (by assumption) M M M M ?_|refine L_stA M (vs:=[_,_]) M M M M (c':=[_,_]) M M ?_|refine L_alloc (c:=[_,_]) M M M (fun _=>?_))
  refine zX M M (zQ M M (by simp<;>rfl)) (prepared1_spec w0 (pt b5 (.cells (cellsR r).toArray 80 (0,0))) r t.reads[k].block b5 at_box) ?_
  rintro _ _ ⟨rfl,rfl⟩
  have hs:=readsF_succ t r hx
  cases hmi:mineF r t.reads[k].block
  ·rw [hmi,if_neg (by simp),List.append_nil] at hs
   refine zaJ ?_
   exact ⟨hx,_,zsb,af,cf,ho,_,rfl,by rw [hs]; exact hof,by rw [hs]; exact yJ.out⟩
  ·rw [hmi,if_pos M] at hs
   repeat (first|refine zB ?_|refine zE ?_|refine zY M M M M M ?_|refine L_ld M M M M M ?_|refine zJ M ?_|refine L_bs (vs:=[_]) (cells:=[_]) M M M M M M (fun _=>?_))
   refine L_eff M M (ev_appendL (X:=0) (h:=ho) (ns:=[t.reads[k].block]) M M hof (rd_one M) (All2.one M) M M M M M (by rw [List.length_singleton]; omega)) ?_
   rintro v5 _ ⟨h5,ho5,rfl⟩
   rw [← hs] at ho5
   obtain ⟨a5,c5,rfl⟩:=ho5.shape
   refine zeV ?_
   exact ⟨hx,_,zsb,a5,c5,h5,_,rfl,ho5,yJ.out⟩
 ·obtain rfl:k=t.reads.length:=by omega
  refine zeC ?_
  have hrl:=readsF_le t r t.reads.length
  refine zX M M (zQ M M M) (sort_spec w0 _ _ ho (owL_ints.1 hof) (by omega)) ?_
  rintro _ k2 o2
  refine zcI ?_
  refine hold_count t.writes.length (fun k g L=>∃ (a2:Option Addr) (c2:Nat) (h2 R:Hp),g=[(1,pB tb),(6,pB b6),(7,pB b7),(8,.func (.func 295) #[] [pB b5].toArray),(56,.slice aw t.writes.length cw),(57,.int .i64 t.writes.length),(58,.int .i64 k)] ∧
   OwL w0 X (writesF t r k) (.slice a2 (writesF t r k).length c2) h2 ∧
   L=pt b7 (.cells (.int .i64 2::.int .i64 0::.int .i64 0::.int .i64 t.id::.int .i64 t.age::.int .i64 r.epoch::.int .i64 0::.int .i64 0::.int .i64 0::.int .i64 0::.int .i64 0::.int .i64 0::.int .i64 0::.slice ap t.parts.length cp::.slice af (readsF t r t.reads.length).length cf::.slice a2 (writesF t r k).length c2::.slice none 0 0::[]).toArray 63 (0,0))+(pt b6 (.cells (.int .i64 0::.int .i64 0::.int .i64 0::.int .i64 0::.int .i64 0::.int .i64 0::.int .i64 0::.int .i64 0::.int .i64 0::.int .i64 0::.int .i64 0::.int .i64 0::.int .i64 0::.slice none 0 0::.slice none 0 0::.slice none 0 0::.slice none 0 0::[]).toArray 63 (0,0))+(pt b5 (.cells (cellsR r).toArray 80 (0,0))+(X+(txnC tb (.int .i64 t.id::.int .i64 t.age::.slice ar t.reads.length cr::va::.slice aw t.writes.length cw::.slice ap t.parts.length cp::.int .i64 t.slo::.int .i64 t.shi::[])+(hr+(ha+hw)))+fr)))+k2+h2+R) _
   ⟨none,0,0,_,rfl,OwL.nil _ _,by rw [show (writesF t r 0).length=0 from rfl,show ∀ a b:Hp,a+0+b=a+b from fun a b=>by rw [yA]]; exact yJ.out⟩ zsb ?_
  rintro k g L hk ⟨a2,c2,h2,R,rfl,hof2,rfl⟩
  refine zaH ?_
  refine yF M M (pv_lss M M) (fun n1=>?_) (fun n1=>?_)
  ·have hx:k<t.writes.length:=by omega
   obtain ⟨bq,oq,rfl,e,hre,hat⟩:=k3.at hx
   obtain ⟨a1,c1,rfl,he⟩:=id hre
   have hfk:=writesF_le t r k
   repeat (first|refine zF ?_|refine zR ?_|refine zB ?_|refine zE ?_|refine zK M M M ?_|refine zY M M M M M ?_|refine L_ld M M M M M ?_|refine zP ?_|refine zJ M ?_|refine L_idx M M (by omega) M M ?_|refine L_atA M (by assumption) M M M M ?_|refine L_stA M (vs:=[_,_]) M M M M (c':=[_,_]) M M ?_|refine L_alloc (c:=[_,_]) M M M (fun _=>?_))
   refine zX M M (zQ M M (by simp<;>rfl)) (prepared1_spec w0 (pt b5 (.cells (cellsR r).toArray 80 (0,0))) r t.writes[k].block b5 at_box) ?_
   rintro _ _ ⟨rfl,rfl⟩
   have hs:=writesF_succ t r hx
   cases hmi:mineF r t.writes[k].block
   ·rw [hmi,if_neg (by simp),List.append_nil] at hs
    refine zaJ ?_
    exact ⟨hx,_,zsb,a2,c2,h2,_,rfl,by rw [hs]; exact hof2,by rw [hs]; exact yJ.out⟩
   ·rw [hmi,if_pos M] at hs
    repeat (first|refine zB ?_|refine zE ?_|refine zY M M M M M ?_|refine L_ld M M M M M ?_|refine zJ M ?_|refine L_ldA M (vs:=[_,_]) M M M M M ?_|refine L_bs (vs:=[_]) (cells:=[_,_]) M M M M M M (fun _=>?_))
    refine L_eff M M (ev_appendL (X:=X) (h:=h2) (ns:=[t.writes[k]]) M M hof2 (rd_one M) (All2.one hre) M M M M M (by rw [List.length_singleton]; omega)) ?_
    rintro v5 _ ⟨h5,ho5,rfl⟩
    rw [← hs] at ho5
    obtain ⟨a5,c5,rfl⟩:=ho5.shape
    refine zeV ?_
    exact ⟨hx,_,zsb,a5,c5,h5,_,rfl,ho5,yJ.out⟩
  ·obtain rfl:k=t.writes.length:=by omega
   have ho4:OwL w0 0 (preparedF t r).reads (.slice af (readsF t r t.reads.length).length cf) k2:=by
    have:(preparedF t r).reads=sortI (readsF t r t.reads.length):=by simp only [preparedF,readsF,List.take_length]
    rw [this]; exact owL_ints.2 o2
   have hw4:(preparedF t r).writes=writesF t r t.writes.length:=by simp only [preparedF,writesF,List.take_length]
   have hrl2:(preparedF t r).reads.length=(readsF t r t.reads.length).length:=by
    have:(preparedF t r).reads=sortI (readsF t r t.reads.length):=by simp only [preparedF,readsF,List.take_length]
    rw [this,sortI_length]
   rw [← hw4] at hof2 ⊢
   rw [← hrl2] at ho4 ⊢
   generalize hrs:(preparedF t r).reads=rs at *
   generalize hws:(preparedF t r).writes=ws at *
   refine zbT ?_
   refine yB [] [0,1,2,3,4,5,6,7,8,9,10] (by kernel_rfl) M (by kernel_rfl) (by kernel_rfl) ?_
   refine zaF ?_
   refine W_dec M M M M (pv_lss M M) (fun n2=>?_) (fun n2=>?_)
   ·repeat (refine yI ?_)
    repeat (refine zJ M ?_)
    refine yB [15,17,19] [0,1,2,3,4,5,6,7,8,9,10,11,12,13,14,15,16,17,18,19] (by kernel_rfl) M (by kernel_rfl) (by kernel_rfl) ?_
    refine zaF ?_
    refine W_eff M M M M (ev_store M M M M M (c':=[_,_,_,_,_,_,_,_,_,_,_,_,_,_,_,_,_]) M) (Kept.all _) ?_
    rintro _ _ rfl
    refine ⟨zka,?_⟩
    repeat (refine yD M M M M (zZ M M M) ?_)
    refine W_eff M M M M (ev_store M M M M M (c':=[_,_,_,_,_,_,_,_,_,_,_,_,_,_,_,_,_]) M) (Kept.all _) ?_
    rintro _ _ rfl
    refine ⟨zka,?_⟩
    repeat (refine yD M M M M (zZ M M M) ?_)
    refine W_eff M M M M (ev_store M M M M M (c':=[_,_,_,_,_,_,_,_,_,_,_,_,_,_,_,_,_]) M) (Kept.all _) ?_
    rintro _ _ rfl
    refine ⟨zka,?_⟩
    repeat (refine yI ?_)
    repeat (first|refine zF ?_|refine zB ?_|refine zE ?_|refine zM ?_|refine L_ldA M (vs:=[_,_,_,_,_,_,_,_,_,_,_,_,_,_,_,_,_]) M M M M M ?_|refine L_stA M (vs:=[_,_,_,_,_,_,_,_,_,_,_,_,_,_,_,_,_]) M M M M (c':=[_,_,_,_,_,_,_,_,_,_,_,_,_,_,_,_,_]) M M ?_)
    have hpf:preparedF t r=⟨2,0,0,t.id,t.age,r.epoch,t.slo,t.shi,0,t.id,0,0,0,t.parts,rs,ws,[]⟩:=by rw [← hrs,← hws]; simp only [preparedF,if_pos n2]
    have hrdp:Rep.rd w0 (X+(k2+h2)) (preparedF t r) [.int .i64 2,.int .i64 0,.int .i64 0,.int .i64 t.id,.int .i64 t.age,.int .i64 r.epoch,.int .i64 t.slo,.int .i64 t.shi,.int .i64 0,.int .i64 t.id,.int .i64 0,.int .i64 0,.int .i64 0,.slice ap t.parts.length cp,.slice af rs.length cf,.slice a2 ws.length c2,.slice none 0 0]:=by
     rw [hpf]
     exact ⟨ap,cp,af,cf,a2,c2,none,0,rfl,k4.mono M,ho4.rd (X:=0) (R:=X+h2),hof2.rd (X:=X) (R:=k2),RdL.nil _ _ _⟩
    exact ⟨[_],_,_,⟨⟨_,rfl,zL (vs:=[_,_,_,_,_,_,_,_,_,_,_,_,_,_,_,_,_]) M M M⟩,trivial⟩,⟨k2+h2,_,rfl,hrdp,rfl⟩,yJ.out⟩
   ·repeat (refine yI ?_)
    repeat (first|refine zF ?_|refine zB ?_|refine zE ?_|refine zP ?_|refine zM ?_|refine zI M ?_|refine L_ldA M (vs:=[_,_,_,_,_,_,_,_,_,_,_,_,_,_,_,_,_]) M M M M M ?_|refine L_stA M (vs:=[_,_,_,_,_,_,_,_,_,_,_,_,_,_,_,_,_]) M M M M (c':=[_,_,_,_,_,_,_,_,_,_,_,_,_,_,_,_,_]) M M ?_)
    have hpf:preparedF t r=⟨2,0,0,t.id,t.age,r.epoch,0,0,0,0,0,0,0,t.parts,rs,ws,[]⟩:=by rw [← hrs,← hws]; simp only [preparedF,if_neg n2]
    have hrdp:Rep.rd w0 (X+(k2+h2)) (preparedF t r) [.int .i64 2,.int .i64 0,.int .i64 0,.int .i64 t.id,.int .i64 t.age,.int .i64 r.epoch,.int .i64 0,.int .i64 0,.int .i64 0,.int .i64 0,.int .i64 0,.int .i64 0,.int .i64 0,.slice ap t.parts.length cp,.slice af rs.length cf,.slice a2 ws.length c2,.slice none 0 0]:=by
     rw [hpf]
     exact ⟨ap,cp,af,cf,a2,c2,none,0,rfl,k4.mono M,ho4.rd (X:=0) (R:=X+h2),hof2.rd (X:=X) (R:=k2),RdL.nil _ _ _⟩
    exact ⟨[_],_,_,⟨⟨_,rfl,zL (vs:=[_,_,_,_,_,_,_,_,_,_,_,_,_,_,_,_,_]) M M M⟩,trivial⟩,⟨k2+h2,_,rfl,hrdp,rfl⟩,yJ.out⟩
end
theorem coValue_spec (w0:World) (b:Nat) (k:Coo) (S:Hp) (H:CooAt w0 b k S) (hl:k.parts.length≤1000000000) :
  Spec Tryz.prog w0 57 [.pointer (some ⟨b,0,none⟩)] S (fun r h'=>r=.int .i64 (valueC k)∧S=h'):=by
 obtain ⟨vp,pm,pp,ab,cb,h1,h2,h3,h4,h5,hp,ha,hc,hm,hq,rfl⟩:=H.out
 clear H
 obtain ⟨ap,cp,rfl⟩:=hp.shape
 generalize hC:cooC b k.me k.txn (.slice ap k.parts.length cp) k.acc (.map (some ab)) (.map (some cb)) (.bool k.started) k.number pm pp k.top=C at *
 obtain ⟨me,txn,parts,acc,l1,chosen,st,num,l2,l3,top⟩:=k
 simp only at *
 subst hC
 refine zN Tryz.func57 M Tryz.ntmps57 Tryz.results57 M fun fr=>?_
 refine zcI ?_
 refine hold_count parts.length (fun i g L=>∃ v:Int,g=[(0,.pointer (some ⟨b,0,none⟩)),(3,.int .i64 v),(9,.slice ap parts.length cp),(10,.int .i64 parts.length),(11,.int .i64 i)]∧valL chosen parts 1=valL chosen (parts.drop i) v ∧
  L=cooC b me txn (.slice ap parts.length cp) acc (.map (some ab)) (.map (some cb)) (.bool st) num pm pp top+(h1+(h2+(h3+(h4+h5))))+fr) _
  ⟨1,rfl,rfl,rfl⟩ zsb ?_
 rintro i g L hi ⟨v,rfl,hv,rfl⟩
 refine zaH ?_
 refine yF M M (pv_lss M M) (fun n1=>?_) (fun n1=>?_)
 ·have hx:i<parts.length:=by omega
  obtain ⟨bq,oq,rfl,e,rfl,hat⟩:=OwL.at hp hx
  rw [List.drop_eq_getElem_cons hx] at hv
  simp only [valL] at hv
  generalize parts[i]=p at hv hat
  refine zdO ?_
  refine L_eff M M (ev_mapGet (k:=p) M M hc) ?_
  rintro _ _ ⟨rfl,rfl⟩
  rw [mapI_vI]
  repeat (first|refine zF ?_|refine zR ?_|refine zB ?_|refine zE ?_)
  refine yF M M (pv_eql M M) (fun n2=>?_) (fun n2=>?_)
  ·refine zaB ?_
   exact ⟨[_],_,_,⟨rfl,trivial⟩,⟨by show _=Value.int .i64 (valL chosen parts 1); rw [hv,if_pos n2]; rfl,rfl⟩,yJ.out⟩
  ·refine zaA ?_
   rw [if_neg n2] at hv
   refine yF M M (pv_eql M M) (fun n3=>?_) (fun n3=>?_)
   ·refine zdY ?_
    exact ⟨hx,_,zsb,0,rfl,by rw [hv,if_pos n3],rfl⟩
   ·refine zaJ ?_
    exact ⟨hx,_,zsb,v,rfl,by rw [hv,if_neg n3],rfl⟩
 ·obtain rfl:i=parts.length:=by omega
  rw [List.drop_length] at hv
  simp only [valL] at hv
  refine zaK ?_
  exact ⟨[_],_,_,⟨rfl,trivial⟩,⟨by show _=Value.int .i64 (valL chosen parts 1); rw [hv]; rfl,rfl⟩,yJ.out⟩
def startG (me txn n:Int) (chosen:List (Int × Int)) (na:Nat) (l:List Int):List Msg:=(l.filter (fun p=>mapI chosen p=0)).flatMap fun p=>allF me txn n (msg0 8 p 0) na
theorem startG_len (me txn n:Int) (chosen:List (Int × Int)) (na:Nat) (h:na≤7) (l:List Int):(startG me txn n chosen na l).length≤7*l.length:=by
 unfold startG
 induction l with
 | nil=>simp
 | cons p l ih =>
  simp only [List.filter_cons]
  split
  ·rw [List.flatMap_cons,List.length_append]
   have:(allF me txn n (msg0 8 p 0) na).length≤7:=by simp [allF]; omega
   simp only [List.length_cons]; omega
  ·simp only [List.length_cons]; omega
theorem startG_yes (me txn n:Int) (chosen:List (Int × Int)) (na:Nat) (l:List Int) (p:Int) (h:mapI chosen p=0):startG me txn n chosen na (l++[p])=startG me txn n chosen na l++allF me txn n (msg0 8 p 0) na:=by
 unfold startG; rw [List.filter_append,List.flatMap_append]; simp [List.filter_cons,h]
theorem startG_no (me txn n:Int) (chosen:List (Int × Int)) (na:Nat) (l:List Int) (p:Int) (h:¬ mapI chosen p=0):startG me txn n chosen na (l++[p])=startG me txn n chosen na l:=by
 unfold startG; rw [List.filter_append,List.flatMap_append]; simp [List.filter_cons,h]
theorem coStart_spec (w0:World) (b:Nat) (k:Coo) (n:Int) (S:Hp) (H:CooAt w0 b k S) (hl:k.parts.length≤1000) (ha0:0≤k.acc) (ha7:k.acc≤7) :
  Spec Tryz.prog w0 167 [.pointer (some ⟨b,0,none⟩),.int .i64 n] S (fun r h'=>∃ h S2,OwL w0 0 (startL k n) r h∧CooAt w0 b (startC k n) S2∧S2+h=h'):=by
 obtain ⟨vp,pm,pp,ab,cb,h1,h2,h3,h4,h5,hp,ha,hc,hm,hq,rfl⟩:=H.out
 clear H
 obtain ⟨ap,cp,rfl⟩:=hp.shape
 generalize hC:cooC b k.me k.txn (.slice ap k.parts.length cp) k.acc (.map (some ab)) (.map (some cb)) (.bool k.started) k.number pm pp k.top=C at *
 obtain ⟨me,txn,parts,acc,l1,chosen,st,num,l2,l3,top⟩:=k
 simp only at *
 subst hC
 obtain ⟨na,rfl⟩:=Int.eq_ofNat_of_zero_le ha0
 refine zN Tryz.func167 M Tryz.ntmps167 Tryz.results167 M fun fr=>?_
 refine zdA ?_
 refine L_eff M M (ev_store M M M M M (c':=(_::_::_::_::_::_::_::_::_::_::_::[])) M) ?_
 rintro _ _ rfl
 repeat (first|refine zK M M M ?_|refine zY M M M M M ?_)
 refine L_eff M M (ev_store M M M M M (c':=(_::_::_::_::_::_::_::_::_::_::_::[])) M) ?_
 rintro _ _ rfl
 refine zaC ?_
 refine L_eff M M ev_mapNew ?_
 rintro _ _ ⟨qb,rfl,rfl⟩
 skip
 refine L_eff M M ev_mapNew ?_
 rintro _ _ ⟨rb,rfl,rfl⟩
 repeat (first|refine zK M M M ?_|refine zY M M M M M ?_)
 refine L_eff M M (ev_store M M M M M (c':=(_::_::_::_::_::_::_::_::_::_::_::[])) M) ?_
 rintro _ _ rfl
 repeat (first|refine zK M M M ?_|refine zY M M M M M ?_)
 refine L_eff M M (ev_store M M M M M (c':=(_::_::_::_::_::_::_::_::_::_::_::[])) M) ?_
 rintro _ _ rfl
 refine zcI ?_
 refine hold_count parts.length (fun i g L=>∃ (v:Value) (ho R:Hp),g=[(0,.pointer (some ⟨b,0,none⟩)),(5,v),(26,.slice ap parts.length cp),(27,.int .i64 parts.length),(28,.int .i64 i)] ∧
  OwL w0 0 (startG me txn n chosen na (parts.take i)) v ho ∧
  L=cooC b me txn (.slice ap parts.length cp) na (.map (some ab)) (.map (some cb)) (.bool true) n (.map (some qb)) (.map (some rb)) top+(h1+(h2+(h3+(pt qb (.map #[] 0)+pt rb (.map #[] 0)))))+fr+ho+R) _
  ⟨.slice none 0 0,0,h4+h5,rfl,OwL.nil _ _,?_⟩ zsb ?_
 ·show cooC b me txn (.slice ap parts.length cp) na (.map (some ab)) (.map (some cb)) (.bool true) n (.map (some qb)) (.map (some rb)) top+_=_
  generalize cooC b me txn (.slice ap parts.length cp) na (.map (some ab)) (.map (some cb)) (.bool true) n (.map (some qb)) (.map (some rb)) top=Z
  simp only [yA]
  ac_rfl
 rintro i g L hi ⟨v,ho,R,rfl,hv,rfl⟩
 refine zaH ?_
 refine yF M M (pv_lss M M) (fun n1=>?_) (fun n1=>?_)
 ·have hx:i<parts.length:=by omega
  obtain ⟨bq,oq,rfl,e,rfl,hat⟩:=OwL.at hp hx
  have htk:parts.take (i+1)=parts.take i++[parts[i]]:=(List.take_append_getElem hx).symm
  generalize parts[i]=p at hat htk
  refine zdO ?_
  refine L_eff M M (ev_mapGet (k:=p) M M hc) ?_
  rintro _ _ ⟨rfl,rfl⟩
  rw [mapI_vI]
  skip
  refine yF M M (pv_eql M M) (fun n2=>?_) (fun n2=>?_)
  ·repeat (first|refine zB ?_|refine zE ?_|refine zK M M M ?_|refine zJ M ?_|refine L_build (vs:=[_,_]) (cells:=[_,_,_,_,_,_,_,_,_,_,_,_,_,_,_,_,_]) M M M M ?_)
   refine zX M M (zQ M M M) (all_spec w0 b me txn (.slice (some ⟨bq,oq,none⟩) parts.length cp) na (.map (some ab)) (.map (some cb)) (.bool true) n (.map (some qb)) (.map (some rb)) top (msg0 8 p 0) M M (by omega)) ?_
   rintro vm _ ⟨hm2,ho2,rfl⟩
   skip
   obtain ⟨es2,w1,w2⟩:=id ho2
   have hlen1:=startG_len me txn n chosen na (by omega) (parts.take i)
   have hlen2:(allF me txn n (msg0 8 p 0) na).length=na:=by simp [allF]
   have hlen3:(parts.take i).length≤1000:=by rw [List.length_take]; omega
   refine L_eff M M (ev_appendL (X:=0) (h:=ho) M M hv w1.rd w2 M M M M M (by rw [hlen2]; omega)) ?_
   rintro v5 _ ⟨h5',ho5,rfl⟩
   rw [← startG_yes _ _ _ _ _ _ _ n2] at ho5
   refine zaI ?_
   exact ⟨hx,_,zsb,v5,h5',R+hm2,rfl,by rw [htk]; exact ho5,by ac_rfl⟩
  ·refine zaJ ?_
   exact ⟨hx,_,zsb,v,ho,R,rfl,by rw [htk,startG_no _ _ _ _ _ _ _ n2]; exact hv,rfl⟩
 ·obtain rfl:i=parts.length:=by omega
  rw [List.take_length] at hv
  refine zaK ?_
  have hK:CooAt w0 b (startC ⟨me,txn,parts,na,l1,chosen,st,num,l2,l3,top⟩ n) (cooC b me txn (.slice ap parts.length cp) na (.map (some ab)) (.map (some cb)) (.bool true) n (.map (some qb)) (.map (some rb)) top+(h1+(h2+(h3+(pt qb (.map #[] 0)+pt rb (.map #[] 0)))))) :=
   ⟨⟨.slice ap parts.length cp,.map (some qb),.map (some rb),ab,cb,h1,h2,h3,pt qb (.map #[] 0),pt rb (.map #[] 0),hp,ha,hc,by exact ⟨qb,rfl,[],pt qb (.map #[] 0),0,MapAt.empty qb,rfl,(yA _).symm⟩,by exact ⟨rb,rfl,MapAt.empty rb⟩,rfl⟩⟩
  refine ⟨[_],(cooC b me txn (.slice ap parts.length cp) na (.map (some ab)) (.map (some cb)) (.bool true) n (.map (some qb)) (.map (some rb)) top+(h1+(h2+(h3+(pt qb (.map #[] 0)+pt rb (.map #[] 0))))))+ho,R,⟨rfl,trivial⟩,⟨ho,_,hv,hK,rfl⟩,?_⟩
  ac_rfl
def CliP (w0:World) (X:Hp) (b tb:Nat) (ps:List PRq) (c:Cl) (S:Hp):Prop :=
 ∃ V hG hE hD hR hT hK hO,Parts w0 X b c V tb ps hG hE hD hR hT hK hO∧S=cliC b (clL c V)+(hG+(hE+(hD+(hR+(hT+(hK+hO))))))
def AfterP (w0:World) (X:Hp) (b tb:Nat) (ps:List PRq) (c:Cl) (h:Hp):Prop:=∃ E S,CliP w0 (X+E) b tb ps c S∧X+E+S=h
section
variable {w0:World} {X L R:Hp} {b tb:Nat} {ps:List PRq} {c:Cl} {S:Hp}
theorem CliP.cli (H:CliP w0 X b tb ps c S):CliT w0 X b tb c S:=by
 obtain ⟨V,hG,hE,hD,hR,hT,hK,hO,hp,rfl⟩:=H
 exact ⟨V,ps,hG,hE,hD,hR,hT,hK,hO,hp,rfl⟩
theorem AfterP.after {h:Hp} (H:AfterP w0 X b tb ps c h):After w0 X b tb c h:=by
 obtain ⟨E,S,h1,h2⟩:=H
 exact ⟨E,S,h1.cli,h2⟩
theorem AfterP.trans {E:Hp} {h:Hp} (H:AfterP w0 (X+E) b tb ps c h):AfterP w0 X b tb ps c h:=by
 obtain ⟨F,S,h1,h2⟩:=H
 exact ⟨E+F,S,by rw [← hadd_assoc]; exact h1,by rw [← hadd_assoc]; exact h2⟩
theorem AfterP.now (H:CliP w0 X b tb ps c S):AfterP w0 X b tb ps c (X+S):=⟨0,S,by rw [yA]; exact H,by rw [yA]⟩
theorem Parts.nowP {V:Raw} {hG hE hD hR hT hK hO:Hp} (H:Parts w0 X b c V tb ps hG hE hD hR hT hK hO):AfterP w0 X b tb ps c (X+(cliC b (clL c V)+(hG+(hE+(hD+(hR+(hT+(hK+hO)))))))):=.now ⟨V,hG,hE,hD,hR,hT,hK,hO,H,rfl⟩
end
theorem zeW {G G' : Prop} (h : G') (f : Zh G'→G:=by intro h; (repeat (first|refine zE ?_|refine zK M M M ?_|refine zY M M M M M ?_|refine L_st M M M (c':=(_::_::_::_::_::_::_::_::_::_::_::_::_::_::_::_::_::_::_::_::_::_::_::_::_::_::_::_::_::_::_::_::_::_::_::_::_::_::[])) M M M M ?_)); exact h.o) : G:=f ⟨h⟩
theorem zdP {G G' : Prop} (h : G') (f : Zh G'→G:=by intro h; (repeat (first|refine zB ?_|refine zK M M M ?_|refine zY M M M M M ?_|refine L_ld M M M M M ?_)); exact h.o) : G:=f ⟨h⟩
section
variable (w0:World) (X:Hp) (b tb:Nat) (c:Cl) (S:Hp) (n:Nat)
theorem filter_rq (q:Rq→Bool) (xs:List GRq):(xs.filter fun x=>q x.rq).map (·.rq)=(xs.map (·.rq)).filter q:=by rw [List.filter_map]; rfl
theorem drop_spec (hS:CliT w0 X b tb c S) (hB:Bd n c) (hn:n≤1000000000) :
  Spec Tryz.prog w0 118 [pB b] (X+S) (fun r h'=>Now w0 X b tb (dropF c) h'):=by
 obtain ⟨⟨vmem,vr0,vsets,vmr,vg,ve,vd,vrq,vop,vow,vw,vco,vou,van⟩,ps,hG,hE,hD,hR,hT,hK,hO,P,rfl⟩:=hS
 obtain ⟨r1,r2,r3,r4,rfl⟩:=P.reqs
 have hlp:=r4.length
 have hG4:=GrsAt.of r4
 have hdel:=deleteFuncG_spec w0 (X+r2) (zipG ps c.reqs) vrq r1 207 [] (fun x=>!x.rq.tidy) (r3.toG _ (ptr_zip hlp)) (by have:=hB.reqs; simp only [zipG,List.length_map,List.length_zip]; omega)
  (fun Y x e hx he=>by
   obtain ⟨g1,g2,e1,e2⟩:=hG4.mem hx
   exact Spec.frameL (R:=X+g2) (by rw [e2]; ac_rfl) (drop1_spec w0 X b tb x.rq x.blk g1 e1))
 refine zN Tryz.func118 M Tryz.ntmps118 Tryz.results118 M fun fr=>?_
 refine zdP ?_
 refine zX M M (zQ M M M) hdel ?_
 rintro v5 _ ⟨h5,ho5,rfl⟩
 obtain ⟨k1,k2,e3,e4⟩:=GrsAt.filter (fun x=>x.rq.tidy) hG4
 rw [show (fun x:GRq=>!(!x.rq.tidy))=(fun x=>x.rq.tidy) from funext fun x=>Bool.not_not _] at ho5
 have hrq:((zipG ps c.reqs).filter fun x=>x.rq.tidy).map (·.rq)=(dropF c).reqs:=by rw [filter_rq (fun r=>r.tidy),rq_zip hlp]; rfl
 have hto:=e3.to
 rw [hrq] at hto
 obtain ⟨a5,c5,rfl⟩:=ho5.shape
 subst e4
 refine zeW ?_
 have hP:Parts w0 X b (dropF c) ⟨vmem,vr0,vsets,vmr,vg,ve,vd,.slice a5 _ c5,vop,vow,vw,vco,vou,van⟩ tb (ptrG _) hG hE hD _ hT hK hO :=
  Parts.mk P.mem P.rngs0 P.sets P.mr P.guess P.ended P.dbts (ReqsAt.intro ho5.ofG hto) P.opn P.own P.txn P.waits P.coord P.out P.ansd
 exact end_cli [] trivial hP (by exact rfl) hP.now
theorem putting_spec (ps:List PRq) (hS:CliP w0 X b tb ps c S) (ho:c.out.length≤1000000000) (m:Msg) (a a2:Option Addr) (d d2:Nat) (he:RdL w0 X (.slice a m.entries.length d) m.entries) (hd:RdL w0 X (.slice a2 m.data.length d2) m.data) (hl:m.entries.length≤1000000000) (hdl:m.data.length≤1000000000) :
  Spec Tryz.prog w0 114 [pB b,.agg (cellsM m (.slice a m.entries.length d) (.slice a2 m.data.length d2)).toArray] (X+S) (fun r h'=>AfterP w0 X b tb ps (putF c m) h'):=by
 obtain ⟨⟨vmem,vr0,vsets,vmr,vg,ve,vd,vrq,vop,vow,vw,vco,vou,van⟩,hG,hE,hD,hR,hT,hK,hO,P,rfl⟩:=hS
 have hput:=msgPut_spec w0 X { m with src:=c.addr } a a2 d d2 he hd hl hdl
 obtain ⟨kd,sr,ds,gp,tm,ix,pv,cm,rn,tx,pa,bl,vl,sq,ok,es,da⟩:=m
 refine zN Tryz.func114 M Tryz.ntmps114 Tryz.results114 M fun fr=>?_
 repeat (first|refine zF ?_|refine zB ?_|refine zE ?_|refine zK M M M ?_|refine zY M M M M M ?_|refine L_ld M M M M M ?_|refine L_st M M M (c':=[_,_,_,_,_,_,_,_,_,_,_,_,_,_,_,_,_]) M M M M ?_|refine L_ldA M (vs:=[_,_,_,_,_,_,_,_,_,_,_,_,_,_,_,_,_]) M M M M M ?_|refine L_box M (c:=[_,_,_,_,_,_,_,_,_,_,_,_,_,_,_,_,_]) M M M (fun _=>?_))
 refine zX M M (zQ M M M) hput ?_
 unfold putF
 rintro _ _ (⟨hc,rfl,rfl⟩|⟨hc,hlen,rfl,rfl⟩|⟨hc,hlen,u,hu,rfl,hou,rfl⟩)
 ·refine zaC ?_
  refine L_no M M (pv_eql M M) hc ?_
  refine zaZ ?_
  rw [if_neg (fun h=>hc h.1)]
  exact end_cli [] trivial P (by exact rfl) P.nowP
 ·refine zaC ?_
  refine L_no M M (pv_eql M M) (by decide) ?_
  refine zaZ ?_
  rw [if_neg (fun h=>Nat.not_lt.2 h.2 hlen)]
  exact end_cli [] trivial P (by exact rfl) P.nowP
 ·refine zaC ?_
  refine L_yes M M (pv_eql M M) M ?_
  repeat (first|refine zE ?_|refine zJ M ?_)
  obtain ⟨au,cu,rfl⟩:=hou.shape
  obtain ⟨ao,co,hvo⟩:=P.out.shape
  simp only at hvo
  subst hvo
  have hpk:Rep.rd w0 (X+hu) (⟨c.addr,ds,pkB ⟨kd,c.addr,ds,gp,tm,ix,pv,cm,rn,tx,pa,bl,vl,sq,ok,es,da⟩⟩:Pkt) [.int .i64 c.addr,.int .i64 ds,.slice au _ cu]:=⟨au,cu,rfl,hou.rd (X:=0) (R:=X),hou.capOf⟩
  refine yB [13,14,17] [0,1,2,3,4,5,6,7,8,9,10,11,12,13,14,15,16,17] (by kernel_rfl) M (by kernel_rfl) (by kernel_rfl) ?_
  repeat (first|refine yH M M M M M ?_|refine yD M M M M (zZ M M M) ?_|refine W_load M M M M (yE M) (zG M (zS M)) ?_|refine yD M M M M (pv_build (vs:=[_,_,_]) (cells:=[_,_,_]) M M) ?_)
  refine W_eff M M M M (ev_buildSlice (vs:=[_]) (cells:=[_,_,_]) M M M M) (Kept.all _) ?_
  rintro _ _ ⟨bn,rfl,rfl⟩
  refine ⟨zka,?_⟩
  skip
  refine W_eff M M M M (ev_appendL (X:=X+hu) (ns:=[_]) (h:=hO) M M (P.out.mono M) (rd_one M) (All2.one hpk) M M M M M (by rw [List.length_singleton]; omega)) (Kept.all _) ?_
  rintro v5 _ ⟨h5,ho5,rfl⟩
  obtain ⟨a5,c5,rfl⟩:=ho5.shape
  refine ⟨zka,?_⟩
  refine zaN ?_
  refine W_eff M M M M (ev_store M M M M M (c':=(_::_::_::_::_::_::_::_::_::_::_::_::_::_::_::_::_::_::_::_::_::_::_::_::_::_::_::_::_::_::_::_::_::_::_::_::_::_::[])) M) (.keep (.keep (.drop (by kernel_rfl) .nil))) ?_
  rintro _ _ rfl
  refine ⟨zka,?_⟩
  repeat (refine yI ?_)
  skip
  have P2:=P.mono (L:=X+hu) (R:=hu) M
  have hP:Parts w0 (X+hu) b { c with out:=c.out++[⟨c.addr,ds,pkB ⟨kd,c.addr,ds,gp,tm,ix,pv,cm,rn,tx,pa,bl,vl,sq,ok,es,da⟩⟩] } ⟨vmem,vr0,vsets,vmr,vg,ve,vd,vrq,vop,vow,vw,vco,.slice a5 _ c5,van⟩ tb ps hG hE hD hR hT hK _ :=
   Parts.mk P2.mem P2.rngs0 P2.sets P2.mr P2.guess P2.ended P2.dbts P2.reqs P2.opn P2.own P2.txn P2.waits P2.coord ho5 P2.ansd
  rw [if_pos ⟨hc,hlen⟩]
  exact end_cli [] trivial hP (by exact rfl) hP.nowP.trans
end
theorem checkF_kind {o:Opn} (h:checkF o=0):1≤o.kind∧o.kind≤11:=by
 by_cases hk:1≤o.kind∧o.kind≤11
 ·exact hk
 ·exfalso; unfold checkF at h; rw [if_pos hk] at h; omega
theorem checkF_writes {o:Opn} (h:checkF o=0):WritesP o:=by
 unfold checkF at h
 repeat' (split at h)
 all_goals first|omega|simp_all
theorem checkF_data {o:Opn} (h:checkF o=0):o.data.length≤32768∧o.parts.length≤4∧o.reads.length≤16∧o.writes.length≤8:=by
 unfold checkF at h
 repeat' (split at h)
 all_goals first|omega|(refine ⟨?_,?_,?_,?_⟩<;>omega)
theorem wr_len :∀ {l:List Wr},(∀ w∈l,w.data.length=4)→((l.map encWr).flatten).length=20*l.length
 | [],_=>rfl
 | x::l,h=>by
  have:=wr_len (l:=l) fun w hw=>h w (by simp [hw])
  have hx:=h x (by simp)
  simp only [List.map_cons,List.flatten_cons,List.length_append,encWr,blob,be8_length,this,hx,List.length_cons]
  omega
theorem fieldsK_len (k:Int):(fieldsK k).length≤6:=by
 unfold fieldsK
 repeat' split
 all_goals decide
theorem putO_len {o:Opn} (h:checkF o=0):(putO o).length≤40000:=by
 have h1:=checkF_data h
 have h2:=wr_len (checkF_writes h)
 have h3:=fieldsK_len o.kind
 have h4:(tailO o).length≤33000:=by
  unfold tailO
  split
  ·simp only [List.length_append,encInts_length,be8_length,h2]; omega
  ·split
   ·simp only [blob,List.length_append,be8_length]; omega
   ·simp
 unfold putO headO
 simp only [List.length_append,be8_length,numsO_len]
 omega
theorem modify_set' {α:Type} {l:List α} {i:Nat} {a:α} (h:l[i]?=some a) (f:α→α):l.modify i f=l.set i (f a):=by
 obtain ⟨hi,rfl⟩:=List.getElem?_eq_some_iff.1 h
 apply List.ext_getElem?
 intro j
 rw [List.getElem?_modify,List.getElem?_set]
 by_cases hj:i=j
 ·subst hj; simp [hi]
 ·cases l[j]?<;>simp [hj]
section
variable (w0:World) (X:Hp) (b tb:Nat) (c:Cl) (S:Hp) (n:Nat)
theorem sending_spec (ps:List PRq) (hS:CliP w0 X b tb ps c S) (ho:c.out.length≤1000000000) (i:Nat) (r:Rq) (hr:c.reqs[i]?=some r) (p:PRq) (hp:ps[i]?=some p) (hg:r.group<5) (hgl:c.guess.length=5) (hz:OpSz r.o) :
  Spec Tryz.prog w0 82 [pB b,pB p.blk] (X+S) (fun v h'=>AfterP w0 X b tb ps (sendF c i) h'):=by
 obtain ⟨⟨vmem,vr0,vsets,vmr,vg,ve,vd,vrq,vop,vow,vw,vco,vou,van⟩,hG,hE,hD,hR,hT,hK,hO,P,rfl⟩:=hS
 obtain ⟨r1,r2,r3,r4,rfl⟩:=P.reqs
 obtain ⟨p',h1,h2,e1,e2,rfl,e4,-⟩:=r4.get hr
 obtain rfl:p'=p:=by rw [hp] at e1; exact (Option.some.inj e1).symm
 obtain ⟨b1,d1,b2,d2,b3,d3,b4,d4,hv,rfl,q1,q2,q3,q4,hh⟩:=e2
 obtain ⟨ag,cg,hvg⟩:=P.guess.shape
 simp only at hvg
 subst hvg
 have hrdG:RdL w0 hG (.slice ag c.guess.length cg) c.guess:=P.guess.rdh
 have hnew:RqsAt w0 X b tb ps (c.reqs.set i { r with sent:=c.clock }) _:=e4 (r':={ r with sent:=c.clock }) ⟨b1,d1,b2,d2,b3,d3,b4,d4,hv,rfl,q1,q2,q3,q4,hh⟩
 have hrs:(sentF c i).reqs=c.reqs.set i { r with sent:=c.clock }:=modify_set' hr _
 rw [← hrs] at hnew
 have hP:Parts w0 X b (sentF c i) ⟨vmem,vr0,vsets,vmr,.slice ag c.guess.length cg,ve,vd,vrq,vop,vow,vw,vco,vou,van⟩ tb ps hG hE hD _ hT hK hO :=
  Parts.mk P.mem P.rngs0 P.sets P.mr P.guess P.ended P.dbts (ReqsAt.intro r3 hnew) P.opn P.own P.txn P.waits P.coord P.out P.ansd
 have hput:=opPut_spec w0 X r.o (cellsO r.o (.slice b1 r.o.parts.length d1) (.slice b2 r.o.reads.length d2) (.slice b3 r.o.writes.length d3) (.slice b4 r.o.data.length d4)) ⟨b1,d1,b2,d2,b3,d3,b4,d4,rfl,q1,q2,q3,q4⟩ hz.nums ⟨hz.parts,hz.reads,hz.writes⟩ hz.data checkF_kind checkF_writes
 obtain ⟨bq,oq,rfl,eg,rfl,hat⟩:=hrdG.at (i:=r.group) (by omega)
 unfold sendF
 rw [hr]
 refine zN Tryz.func82 M Tryz.ntmps82 Tryz.results82 M fun fr=>?_
 repeat (first|refine zF ?_|refine zB ?_|refine zE ?_|refine zK M M M ?_|refine zY M M M M M ?_|refine L_ld M M M M M ?_|refine L_st M M M (c':=[_,_,_,_,_,_,_,_,_,_,_,_,_,_,_,_,_,_,_,_,_,_]) M M M M ?_|refine L_ldA M (vs:=[_,_,_,_,_,_,_,_,_,_,_,_,_,_,_,_,_]) M M M M M ?_)
 refine zX M M (zQ M M M) hput ?_
 rintro _ _ (⟨hc,rfl,rfl⟩|⟨hc,u,hu,rfl,hou,rfl⟩)
 ·refine zaC ?_
  refine L_no M M (pv_eql M M) hc ?_
  refine zaZ ?_
  simp only [if_neg hc]
  exact end_cli [] trivial hP (by exact rfl) hP.nowP
 ·refine zaC ?_
  refine L_yes M M (pv_eql M M) M ?_
  repeat (first|refine zE ?_|refine zJ M ?_)
  simp only [if_pos hc]
  obtain ⟨au,cu,rfl⟩:=hou.shape
  refine yB [22] [0,1,2,3,4,5,6,7,8,9,10,11,12,13,14,15,16,17,18,19,20,21,22] (by kernel_rfl) M (by kernel_rfl) (by kernel_rfl) ?_
  repeat (first|refine yH M M M M M ?_|refine yD M M M M (zZ M M M) ?_|refine W_load M M M M (yE M) (zG M (zS M)) ?_|refine W_idx M M M (by omega) M M M ?_|refine W_at M M (by assumption) M M M M M ?_|refine yD M M M M (pv_build (vs:=[_,_,_,_,_]) (cells:=[_,_,_,_,_,_,_,_,_,_,_,_,_,_,_,_,_]) M M) ?_)
  have hgu:c.guess[r.group]=guessAt c r.group:=by unfold guessAt; rw [List.getD_eq_getElem?_getD,List.getElem?_eq_getElem (by omega)]; rfl
  rw [hgu]
  have hP':Parts w0 X b { c with reqs:=c.reqs.modify i fun r=>{ r with sent:=c.clock } } ⟨vmem,vr0,vsets,vmr,.slice (some ⟨bq,oq,none⟩) c.guess.length cg,ve,vd,vrq,vop,vow,vw,vco,vou,van⟩ tb ps hG hE hD _ hT hK hO:=hP
  have hpt:=putting_spec w0 (X+hu) b tb { c with reqs:=c.reqs.modify i fun r=>{ r with sent:=c.clock } } _ ps ⟨_,hG,hE,hD,_,hT,hK,hO,hP'.mono M,rfl⟩ ho (askM c r) none au 0 cu (RdL.nil _ _ _) (hou.rd (X:=0) (R:=X)) (by show 0≤1000000000; omega) (by show (putO r.o).length≤1000000000; have:=putO_len hc; omega)
  refine W_call M M M M (zQ M M M) hpt (.drop (by kernel_rfl) (.drop (by kernel_rfl) (.drop (by kernel_rfl) (.drop (by kernel_rfl) (.drop (by kernel_rfl) .nil))))) ?_
  rintro _ _ hA
  refine ⟨trivial,?_⟩
  repeat (refine yI ?_)
  skip
  exact ⟨[],_,_,trivial,hA.trans,yJ.out⟩
end
theorem putF_out (c:Cl) (m:Msg):(putF c m).out.length≤c.out.length+1:=by
 unfold putF; simp only; split
 ·simp
 ·omega
theorem putsF_out :∀ (l:List Msg) (c:Cl),(putsF c l).out.length≤c.out.length+l.length
 | [],c=>Nat.le_refl _
 | m::l,c=>by
  have h1:=putF_out c m
  have h2:=putsF_out l (putF c m)
  show (putsF (putF c m) l).out.length≤_
  rw [List.length_cons]; omega
theorem putsF_snoc (c:Cl) (l:List Msg) (m:Msg):putsF c (l++[m])=putF (putsF c l) m:=by unfold putsF; rw [List.foldl_append]; rfl
theorem sendF_out (c:Cl) (i:Nat):(sendF c i).out.length≤c.out.length+1:=by
 unfold sendF
 split
 ·omega
 ·split
  ·exact putF_out _ _
  ·exact Nat.le_succ _
theorem sendsF_out :∀ (l:List Nat) (c:Cl),(sendsF c l).out.length≤c.out.length+l.length
 | [],c=>Nat.le_refl _
 | i::l,c=>by
  have h1:=sendF_out c i
  have h2:=sendsF_out l (if dueF c i=true then sendF c i else c)
  show (sendsF (if dueF c i=true then sendF c i else c) l).out.length≤_
  rw [List.length_cons]
  split at h2
  ·rename_i h; rw [if_pos h]; omega
  ·rename_i h; rw [if_neg h]; omega
theorem sendsF_snoc (c:Cl) (l:List Nat) (i:Nat):sendsF c (l++[i])=if dueF (sendsF c l) i=true then sendF (sendsF c l) i else sendsF c l:=by unfold sendsF; rw [List.foldl_append]; rfl
theorem same_keep {c c':Cl} (h:Same c c'):c'.clock=c.clock∧c'.guess=c.guess∧c'.reqs.map core=c.reqs.map core∧c'.addr=c.addr:=by obtain ⟨o,r,rfl,e⟩:=h; exact ⟨rfl,rfl,e,rfl⟩
theorem core_get {l m:List Rq} (h:l.map core=m.map core) {i:Nat} {r:Rq} (hr:m[i]?=some r):∃ r',l[i]?=some r'∧core r'=core r:=by
 have:(l.map core)[i]?=(m.map core)[i]?:=by rw [h]
 rw [List.getElem?_map,List.getElem?_map,hr] at this
 cases hl:l[i]? with
 | none=>rw [hl] at this; cases this
 | some r'=>rw [hl] at this; exact ⟨r',rfl,by simpa using this⟩
theorem firstF_lt {l:List Rq} {i:Nat} (h:i∈firstF l):i<l.length:=by
 unfold firstF at h
 have:=(List.mem_filter.1 h).1
 simpa using this
theorem firstF_len (l:List Rq):(firstF l).length≤l.length:=by
 unfold firstF
 refine Nat.le_trans (List.length_filter_le _ _) ?_
 rw [List.length_range]; omega
theorem ret_cliX {w0:World} {X:Hp} {b tb:Nat} {c:Cl} {P:Program} {V:Raw} {ps:List PRq} {hG hE hD hR hT hK hO J L R R2 fr:Hp} {rs:List ResultVar} {g:Env} {post:Value→Hp→Prop} (vs:List Value) (hres:ResOk P w0 g L rs vs) {cs:List Value}
  (H:Parts w0 X b c V tb ps hG hE hD hR hT hK hO) [hb:HasPt b L (.cells cs.toArray 95 (0,0)) R] [hf:yJ (X+(hG+(hE+(hD+(hR+(hT+(hK+hO))))))+J+fr) R R2] (hcs:clL c V=cs)
  (hp:post (oneV vs) (X+(cliC b (clL c V)+(hG+(hE+(hD+(hR+(hT+(hK+hO))))))+J))):retD P w0 rs fr post .ret g L:=by
 subst hcs
 have e1:=hb.out
 have e2:=hf.out
 exact ⟨vs,_,R2,hres,hp,by rw [e1,e2]; simp only [cliC]; ac_rfl⟩
def RspAt (w0:World) (X:Hp) (rs:Rsp) (r:Value) (h:Hp):Prop :=
 ∃ vo ad cd,r=.tuple #[vo,.agg [.int .i64 rs.ans.code,.int .i64 rs.ans.txn,.slice ad rs.ans.data.length cd].toArray,.bool rs.answered]∧OwL w0 X rs.out vo h∧RdL w0 X (.slice ad rs.ans.data.length cd) rs.ans.data
def Fin (w0:World) (X:Hp) (b tb:Nat) (c:Cl) (rs:Rsp) (r:Value) (h:Hp):Prop:=∃ E S ho,RspAt w0 (X+E) rs r ho∧CliT w0 (X+E) b tb c S∧X+E+(S+ho)=h
theorem Fin.trans {w0:World} {X E:Hp} {b tb:Nat} {c:Cl} {rs:Rsp} {r:Value} {h:Hp} (H:Fin w0 (X+E) b tb c rs r h):Fin w0 X b tb c rs r h:=by
 obtain ⟨F,S,ho,h1,h2,h3⟩:=H
 exact ⟨E+F,S,ho,by rw [← hadd_assoc]; exact h1,by rw [← hadd_assoc]; exact h2,by rw [← hadd_assoc X E F]; exact h3⟩
theorem zcT {G G' : Prop} (h : G') (f : Zh G'→G:=by intro h; (repeat (first|refine yH M M M M M ?_|refine yD M M M M (zZ M M M) ?_|refine W_load M M M M (yE M) (zG M (zS M)) ?_|refine W_load M M M M (yE M) (zL (vs:=[_,_,_]) M M M) ?_)); exact h.o) : G:=f ⟨h⟩
section
variable (w0:World) (X:Hp) (b tb:Nat) (c:Cl) (S:Hp) (n:Nat)
theorem putting_all_spec (ps:List PRq) (hS:CliP w0 X b tb ps c S) (l:List Msg) (a:Option Addr) (cp:Nat) (hv:RdL w0 X (.slice a l.length cp) l) (ho:c.out.length+l.length≤1000000000) (hm:∀ m∈l,m.entries.length≤1000000000∧m.data.length≤1000000000) :
  Spec Tryz.prog w0 55 [pB b,.slice a l.length cp] (X+S) (fun r h'=>AfterP w0 X b tb ps (putsF c l) h'):=by
 refine zN Tryz.func55 M Tryz.ntmps55 Tryz.results55 M fun fr=>?_
 refine zaS ?_
 refine hold_count l.length (fun k g L=>∃ (E S' R:Hp),g=[(0,pB b),(6,.slice a l.length cp),(7,.int .i64 l.length),(8,.int .i64 k)]∧CliP w0 (X+E) b tb ps (putsF c (l.take k)) S'∧L=X+E+S'+fr+R) _
  ⟨0,S,0,rfl,by rw [yA]; exact hS,by rw [yA,yA]⟩ zsb ?_
 rintro k g L hk ⟨E,S',R,rfl,hS',rfl⟩
 refine zaH ?_
 refine yF M M (pv_lss M M) (fun n1=>?_) (fun n1=>?_)
 ·have hx:k<l.length:=by omega
  obtain ⟨bq,oq,rfl,e,hre,hat⟩:=hv.at hx
  obtain ⟨a1,c1,a2,c2,rfl,he,hd⟩:=id hre
  obtain ⟨m1,m2⟩:=hm _ (List.getElem_mem hx)
  have hput:=putting_spec w0 (X+E) b tb (putsF c (l.take k)) S' ps hS' (by have:=putsF_out (l.take k) c; rw [List.length_take] at this; omega) l[k] a1 a2 c1 c2 (he.mono M) (hd.mono M) m1 m2
  repeat (first|refine zF ?_|refine zR ?_|refine zB ?_|refine zE ?_|refine zK M M M ?_|refine zP ?_|refine zJ M ?_|refine L_idx M M (by omega) M M ?_|refine L_atA M (by assumption) M M M M ?_|refine L_ldA M (vs:=[_,_,_,_,_,_,_,_,_,_,_,_,_,_,_,_,_]) M M M M M ?_|refine L_stA M (vs:=[_,_,_,_,_,_,_,_,_,_,_,_,_,_,_,_,_]) M M M M (c':=[_,_,_,_,_,_,_,_,_,_,_,_,_,_,_,_,_]) M M ?_|refine L_alloc (c:=[_,_,_,_,_,_,_,_,_,_,_,_,_,_,_,_,_]) M M M (fun _=>?_))
  refine zX M M (zQ M M M) hput ?_
  rintro _ _ ⟨E2,S2,h1,rfl⟩
  refine zaI ?_
  exact ⟨hx,_,zsb,E+E2,S2,_,rfl,by rw [List.take_succ_eq_append_getElem hx,putsF_snoc,← hadd_assoc]; exact h1,yJ.out⟩
 ·obtain rfl:k=l.length:=by omega
  rw [List.take_length] at hS'
  refine zbT ?_
  exact ⟨[],_,_,trivial,⟨E,S',hS',rfl⟩,yJ.out⟩
theorem doneC_spec (hS:CliT w0 X b tb c S) (hB:Bd n c) (hn:n≤100000000) (hF:Fine c) :
  Spec Tryz.prog w0 32 [pB b] (X+S) (fun r h'=>Fin w0 X b tb (doneF c) (endF c) r h'):=by
 obtain ⟨V,ps,hG,hE,hD,hR,hT,hK,hO,P,rfl⟩:=hS
 obtain ⟨r1,r2,r3,r4,rfl⟩:=P.reqs
 have hlp:=r4.length
 have hgr:∀ r∈c.reqs,r.group<5:=fun r hr=>(hF.reqs (core r) (List.mem_map.2 ⟨r,hr,rfl⟩)).1
 have hfirst:=firsts_spec w0 X b tb c V ps r1 r2 hG hE hD hT hK hO P r3 r4 (by have:=hB.reqs; omega) hgr
 have hS0:CliP w0 X b tb ps c (cliC b (clL c V)+(hG+(hE+(hD+((r1+r2)+(hT+(hK+hO))))))):=⟨V,hG,hE,hD,_,hT,hK,hO,P,rfl⟩
 generalize cliC b (clL c V)+(hG+(hE+(hD+((r1+r2)+(hT+(hK+hO))))))=S at hfirst hS0
 clear P r3 r4
 have hll:(firstP ps c.reqs).length=(firstF c.reqs).length:=by simp [firstP]
 have hfl:=firstF_len c.reqs
 have hrq:=hB.reqs
 refine zN Tryz.func32 M Tryz.ntmps32 Tryz.results32 M fun fr=>?_
 repeat (first|refine zF ?_|refine zB ?_|refine zE ?_|refine zK M M M ?_|refine L_alloc (c:=[_,_,_]) M M M (fun _=>?_))
 rename_i b3
 refine zX M M (zQ M M M) hfirst ?_
 rintro vf _ ⟨hf,hof,rfl⟩
 obtain ⟨af,cf,rfl⟩:=hof.shape
 have hrd:RdL w0 hf (.slice af (firstP ps c.reqs).length cf) (firstP ps c.reqs):=hof.rdh
 refine zdG ?_
 refine hold_count (firstF c.reqs).length (fun k g L=>∃ (E S' R:Hp),g=[(0,pB b),(3,pB b3),(11,.slice af (firstP ps c.reqs).length cf),(12,.int .i64 (firstF c.reqs).length),(13,.int .i64 k)]∧CliP w0 (X+E) b tb ps (sendsF c ((firstF c.reqs).take k)) S' ∧
  L=X+E+S'+hf+pt b3 (.cells #[.int .i64 0,.int .i64 0,.slice none 0 0] 37 (0,0))+fr+R) _
  ⟨0,S,0,by rw [← hll],by rw [yA]; exact hS0,by rw [yA,yA]; exact yJ.out⟩ zsb ?_
 rintro k g L hk ⟨E,S',R,rfl,hS',rfl⟩
 refine zaH ?_
 refine yF M M (pv_lss M M) (fun n1=>?_) (fun n1=>?_)
 ·have hx:k<(firstF c.reqs).length:=by omega
  obtain ⟨bq,oq,rfl,e,rfl,hat⟩:=hrd.at (i:=k) (by omega)
  have hi:=firstF_lt (List.getElem_mem hx)
  have hpk:ps[(firstF c.reqs)[k]]?=some (firstP ps c.reqs)[k]:=by
   simp only [firstP,List.getElem_map,List.getD_eq_getElem?_getD]
   rw [List.getElem?_eq_getElem (by omega)]; rfl
  obtain ⟨k1,k2,k3,k4⟩:=same_keep (sendsF_same ((firstF c.reqs).take k) c)
  obtain ⟨r',hr',hcr⟩:=core_get k3 (List.getElem?_eq_getElem hi)
  have hsm:=sendsF_snoc c ((firstF c.reqs).take k) ((firstF c.reqs)[k])
  rw [← List.take_succ_eq_append_getElem hx] at hsm
  have hg':r'.group<5:=by
   have:=hgr _ (List.getElem_mem hi)
   have e:=congrArg Core.group hcr
   simp only [core] at e; omega
  have hz':OpSz r'.o:=by
   have:=hB.ops (core c.reqs[(firstF c.reqs)[k]]) (List.mem_map.2 ⟨_,List.getElem_mem hi,rfl⟩)
   rw [← hcr] at this; exact this
  have hout:(sendsF c ((firstF c.reqs).take k)).out.length≤1000000000:=by
   have:=sendsF_out ((firstF c.reqs).take k) c
   rw [List.length_take] at this
   have:=hB.out
   omega
  have hsend:=sending_spec w0 (X+E) b tb (sendsF c ((firstF c.reqs).take k)) S' ps hS' hout _ r' hr' _ hpk hg' (by rw [k2]; exact hF.guess) hz'
  have hdue:dueF (sendsF c ((firstF c.reqs).take k)) (firstF c.reqs)[k]=decide (r'.sent<0∧r'.frm≤(sendsF c ((firstF c.reqs).take k)).clock):=by unfold dueF; rw [hr']
  rw [hdue] at hsm
  generalize (firstP ps c.reqs)[k]=pk at hpk hat hsend
  generalize sendsF c ((firstF c.reqs).take k)=c1 at *
  obtain ⟨⟨vmem,vr0,vsets,vmr,vg,ve,vd,vrq,vop,vow,vw,vco,vou,van⟩,hG',hE',hD',hR',hT',hK',hO',P',rfl⟩:=id hS'
  obtain ⟨s1,s2,s3,s4,rfl⟩:=P'.reqs
  obtain ⟨p',h1,h2,e1,⟨b1,d1,b2,d2,b3',d3,b4,d4,hv,rfl,q1,q2,q3,q4,hh⟩,rfl,-,-⟩:=s4.get hr'
  obtain rfl:p'=pk:=by rw [hpk] at e1; exact (Option.some.inj e1).symm
  refine zaT ?_
  refine yB [] [0,1,2,3,4,5,6,7,8,9,10,11,12,13,14,15] (by kernel_rfl) M (by kernel_rfl) (by kernel_rfl) ?_
  refine zaF ?_
  refine W_dec M M M M (pv_lss M M) (fun n2=>?_) (fun n2=>?_)
  ·refine zaF ?_
   refine W_dec M M M M (pv_leq M M) (fun n3=>?_) (fun n3=>?_)
   ·refine zaD ?_
    repeat (first|refine zB ?_|refine zK M M M ?_|refine zJ M ?_)
    rw [decide_eq_true ⟨n2,n3⟩,if_pos M] at hsm
    refine zX M M (zQ M M M) hsend ?_
    rintro _ _ ⟨E2,S2,h6,rfl⟩
    refine zaI ?_
    exact ⟨hx,_,zsb,E+E2,S2,_,rfl,by rw [hsm,← hadd_assoc]; exact h6,yJ.out⟩
   ·refine zaD ?_
    refine zaJ ?_
    rw [decide_eq_false (fun h=>n3 h.2),if_neg (by simp)] at hsm
    exact ⟨hx,_,zsb,E,_,_,rfl,by rw [hsm]; exact hS',yJ.out⟩
  ·refine zaQ ?_
   refine zaJ ?_
   rw [decide_eq_false (fun h=>n2 h.1),if_neg (by simp)] at hsm
   exact ⟨hx,_,zsb,E,_,_,rfl,by rw [hsm]; exact hS',yJ.out⟩
 ·obtain rfl:k=(firstF c.reqs).length:=by omega
  rw [List.take_length] at hS'
  have hfl2:sendsF c (firstF c.reqs)=flushF c:=rfl
  rw [hfl2] at hS'
  unfold doneF endF
  generalize flushF c=c1 at *
  obtain ⟨⟨vmem,vr0,vsets,vmr,vg,ve,vd,vrq,vop,vow,vw,vco,vou,van⟩,hG',hE',hD',hR',hT',hK',hO',P',rfl⟩:=hS'
  obtain ⟨ao,co,hvo⟩:=P'.out.shape
  obtain ⟨ad,cd,hvd,hrd2⟩:=P'.ansd
  simp only at hvo hvd
  subst hvo
  subst hvd
  refine zbT ?_
  refine yB [12,14] [0,1,2,3,4,5,6,7,8,9,10,11,12,13,14,15] (by kernel_rfl) M (by kernel_rfl) (by kernel_rfl) ?_
  refine zcT ?_
  refine W_eff M M M M ev_alloc (Kept.all _) ?_
  rintro _ _ ⟨b8,rfl,hL⟩
  have hL':_=pt b8 (.cells [.int .i64 0,.int .i64 0,.slice none 0 0].toArray 37 (0,0))+_:=hL
  subst hL'
  clear hL
  refine ⟨zka,?_⟩
  repeat (refine yH M M M M M ?_)
  refine W_eff M M M M (ev_storeA (vs:=[_,_,_]) M M M M (c:=[_,_,_]) (Nat.le_of_ble_eq_true M) (c':=[_,_,_]) M) (Kept.all _) ?_
  rintro _ _ rfl
  refine ⟨zka,?_⟩
  refine zaD ?_
  repeat (first|refine zF ?_|refine zB ?_|refine zE ?_|refine zK M M M ?_|refine zY M M M M M ?_|refine L_st M M M (c':=(_::_::_::_::_::_::_::_::_::_::_::_::_::_::_::_::_::_::_::_::_::_::_::_::_::_::_::_::_::_::_::_::_::_::_::_::_::_::[])) M M M M ?_|refine L_build (vs:=[]) (cells:=[_,_,_]) M M M M ?_|refine L_stA M (vs:=[_,_,_]) M M M M (c':=(_::_::_::_::_::_::_::_::_::_::_::_::_::_::_::_::_::_::_::_::_::_::_::_::_::_::_::_::_::_::_::_::_::_::_::_::_::_::[])) M M ?_)
  refine yB [4] [0,1,2,3,4,5] (by kernel_rfl) M (by kernel_rfl) (by kernel_rfl) ?_
  repeat (first|refine yH M M M M M ?_|refine W_load M M M M (yE M) (zL (vs:=[_,_,_]) M M M) ?_)
  refine W_eff M M M M (ev_storeA (vs:=[_,_,_]) M M M M (c:=[_,_,_]) (Nat.le_of_ble_eq_true M) (c':=[_,_,_]) M) (Kept.all _) ?_
  rintro _ _ rfl
  refine ⟨zka,?_⟩
  refine zaD ?_
  repeat (refine zM ?_)
  have hP:Parts w0 (X+E) b { c1 with out:=[],ans:=ans0,answered:=false } ⟨vmem,vr0,vsets,vmr,vg,ve,vd,vrq,vop,vow,vw,vco,.slice none 0 0,.slice none 0 0⟩ tb ps hG' hE' hD' hR' hT' hK' 0 :=
   Parts.mk P'.mem P'.rngs0 P'.sets P'.mr P'.guess P'.ended P'.dbts P'.reqs P'.opn P'.own P'.txn P'.waits P'.coord (OwL.nil _ _) ⟨none,0,rfl,RdL.nil _ _ _⟩
  refine ret_cliX (X:=X+E) (J:=hO') [_,_,_] ⟨rfl,⟨_,rfl,zL (vs:=[_,_,_]) M M M⟩,rfl,trivial⟩ hP (by exact rfl) ?_
  exact ⟨E,_,hO',⟨_,ad,cd,rfl,P'.out,hrd2⟩,⟨_,ps,hG',hE',hD',hR',hT',hK',0,hP,rfl⟩,rfl⟩
end
end Sl
end Go.Proofs.YtfahijncpmlhjaaGreat
