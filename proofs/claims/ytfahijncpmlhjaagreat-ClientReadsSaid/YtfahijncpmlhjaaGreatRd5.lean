/-
  clientReads.proved: for all that is handed in the law function returns true, and what it is given reads as it did. No condition. (Also: Open, ClIn, CClReads.)
-/
import Derived.Test.YtfahijncpmlhjaaGreatRd1
import Derived.Deep.Slices
import Derived.Deep.Strs
import Derived.Lib.SmallJoins
import Derived.ChangeArms
import Derived.SizedLaws
import Derived.Test.YtfahijncpmlhjaaGreatRows
import Derived.WalkKit
import Derived.ProofKit
import Derived.OpenShut
import Derived.ShutString
import Derived.ChangeOld
import Derived.Below
import Derived.Test.YtfahijncpmlhjaaGreatRd2
import Derived.Test.YtfahijncpmlhjaaGreatRd4
set_option linter.unusedVariables false
set_option linter.unusedSimpArgs false
namespace Go.Proofs.YtfahijncpmlhjaaGreat
open Go Go.RowKit Go.ChangeShapes Go.WideShapes Go.ChangeAt Go.Deep
namespace Sl
section
variable {H:Type} {enc:TypeId × Value→H} {P:Program} {w0:World}
theorem weightsAll_mem' {e:TypeId}:∀ {l:List (DataW H)} {d:DataW H},d∈l→∀ n∈d.weights P e,n∈DataW.weightsAll P e l
 | x::l,d,hd,n,hn=>by
  simp only [DataW.weightsAll]
  rcases List.mem_cons.1 hd with rfl|hd
  ·exact List.mem_append_left _ hn
  ·exact List.mem_append_right _ (weightsAll_mem' hd n hn)
theorem open_rd {t e:TypeId} {sz fuel:Nat} {v:Value} {d:DataW H} {p:List MemPlace} (ht:P.underlying t=some (.slice e)) (hsz:P.cellsOf e=sz) (h0:0<sz)
  (h:DataW.trod enc P w0 0 (fun _=>true) true fuel t [v]=some (d,p)) {B:Nat} (hB:∀ n∈d.weights P t,n≤B) :
  ∃ es,RdRow w0 0 sz v es∧es.length*P.bytesOf e≤B∧∀ (i:Nat) (x:List Value),es[i]?=some x→∃ D Pl n,DataW.trod enc P w0 0 (fun _=>true) true n e x=some (D,Pl)∧∀ m∈D.weights P e,m≤B:=by
 rcases open_slice ht h with ⟨hc,hx⟩|⟨a,len,cap,m,n,D,Pl,hc,hb,hl,hm,hmm,hx,hall⟩
 ·simp only [List.cons.injEq,and_true] at hc
  subst hc
  exact ⟨[],⟨none,0,rfl,by simp,fun i x hx=>by simp at hx⟩,by simp,fun i x hx=>by simp at hx⟩
 ·simp only [List.cons.injEq,and_true] at hc
  subst hc
  simp only [if_true] at hmm
  subst hmm
  simp only [Prod.mk.injEq] at hx
  obtain ⟨rfl,rfl⟩:=hx
  rw [hsz] at hall
  obtain ⟨F,hF⟩:=choose_lt (α:=List Value) hall
  have hat:∀ (i:Nat) (x:List Value),((List.range len).map F)[i]?=some x→i<len∧x=F i:=by
   intro i x hx
   rw [List.getElem?_map] at hx
   by_cases hi:i<len
   ·rw [List.getElem?_range hi] at hx
    exact ⟨hi,(Option.some.inj hx).symm⟩
   ·rw [List.getElem?_eq_none (by simpa using hi)] at hx; cases hx
  have hlen:∀ i,i<len→(F i).length=sz:=fun i hi=>(World.cells?_some (hF i (by omega)).1).2.1
  refine ⟨(List.range len).map F,⟨some a,m,by simp,?_,?_⟩,?_,?_⟩
  ·intro x hx
   obtain ⟨i,hi,rfl⟩:=List.mem_map.1 hx
   exact hlen i (List.mem_range.1 hi)
  ·intro i x hx
   obtain ⟨hi,rfl⟩:=hat i x hx
   have hspot:a.spot=none:=by
    obtain ⟨_,h2,h3⟩:=World.cells?_some (hF 0 (by omega)).1
    have h4:=h3 0 h0
    rw [List.getElem?_eq_getElem (show 0<(F 0).length by omega)] at h4
    simpa [Addr.add] using World.cell?_spot h4
   obtain ⟨b,off,spot⟩:=a
   obtain rfl:spot=none:=hspot
   refine ⟨b,off,rfl,fun j u hu=>?_⟩
   obtain ⟨_,h2,h3⟩:=World.cells?_some (hF i (by omega)).1
   have hj:j<sz:=by rw [← h2]; exact (List.getElem?_eq_some_iff.1 hu).1
   have h4:=h3 j hj
   rw [add_none,add_none,hu] at h4
   exact reads_base h4
  ·have:=hB ((((List.range len).map D).length+((List.range (m - len)).map fun j=>D (len+j)).length)*P.bytesOf e) (by simp [DataW.weights,ht])
   refine Nat.le_trans (Nat.mul_le_mul_right _ ?_) this
   simp
  ·intro i x hx
   obtain ⟨hi,rfl⟩:=hat i x hx
   refine ⟨D i,Pl i,n,(hF i (by omega)).2,fun q hq=>hB q ?_⟩
   simp only [DataW.weights,ht]
   refine List.mem_cons_of_mem _ (List.mem_append_left _ (weightsAll_mem' (List.mem_map.2 ⟨i,List.mem_range.2 hi,rfl⟩) q hq))
end
end Sl
end Go.Proofs.YtfahijncpmlhjaaGreat
namespace Go.Proofs.YtfahijncpmlhjaaGreat.clIn
open Sl
open Go.ChangeShapes Go.WideShapes Go.ChangeAt Go.RowKit Go.Deep Go.Joins
set_option maxRecDepth 100000
def I64 (n:Int):Prop:=-9223372036854775808≤n∧n≤9223372036854775807
theorem own :ownKnob Tryz.prog.godebug=none:=by kernel_rfl
theorem laidOut :laidOutB Tryz.prog=true:=by kernel_rfl
section
variable {H:Type} {enc:TypeId × Value→H} {w0:World}
theorem all2_of {α:Type} {R:α→List Value→Prop} {Q:α→Prop}:∀ {es:List (List Value)},(∀ (i:Nat) (x:List Value),es[i]?=some x→∃ q,R q x∧Q q)→∃ l:List α,All2 R l es∧∀ q∈l,Q q
 | [],_=>⟨[],trivial,by simp⟩
 | x::es,h=>by
  obtain ⟨q,hq,hQ⟩:=h 0 x rfl
  obtain ⟨l,hl,hQs⟩:=all2_of (es:=es) (R:=R) (Q:=Q) fun i y hy=>h (i+1) y (by simpa using hy)
  exact ⟨q::l,⟨hq,hl⟩,by simpa using ⟨hQ,hQs⟩⟩
theorem open_list {α:Type} [ρ:Rep α] (Q:α→Prop) {t e:TypeId} {B fuel:Nat} {v:Value} {d:DataW H} {p:List MemPlace} (ht:Tryz.prog.underlying t=some (.slice e)) (hsz:Tryz.prog.cellsOf e=ρ.size) (h0:0<ρ.size) (hb:Tryz.prog.bytesOf e=B)
  (hel:∀ (n:Nat) (x:List Value) (D:DataW H) (Pl:List MemPlace),DataW.trod enc Tryz.prog w0 0 (fun _=>true) true n e x=some (D,Pl)→(∀ m∈D.weights Tryz.prog e,m≤reachBytes)→∃ q,ρ.rd w0 0 q x∧Q q)
  (h:DataW.trod enc Tryz.prog w0 0 (fun _=>true) true fuel t [v]=some (d,p)) (hB:∀ n∈d.weights Tryz.prog t,n≤reachBytes) :
  ∃ l,RdL w0 0 v l∧l.length*B≤reachBytes∧∀ q∈l,Q q:=by
 obtain ⟨es,hr,hl,hi⟩:=open_rd ht hsz h0 h hB
 obtain ⟨l,ha,hq⟩:=all2_of (R:=ρ.rd w0 0) (Q:=Q) fun i x hx=>by
  obtain ⟨D,Pl,n,h1,h2⟩:=hi i x hx
  exact hel n x D Pl h1 h2
 rw [hb,ha.length] at hl
 exact ⟨l,⟨es,hr,ha⟩,hl,hq⟩
theorem open_int1 {n:Nat} {x:List Value} {D:DataW H} {Pl:List MemPlace} (h:DataW.trod enc Tryz.prog w0 0 (fun _=>true) true n 3 x=some (D,Pl)):∃ k:Int,x=[.int .i64 k]∧I64 k:=by
 obtain ⟨k,rfl,_,hwf⟩:=DataW.trod_int Tryz.underlying3 h
 have hwf':-9223372036854775808≤k∧k≤9223372036854775807:=by simpa [Lit.wf,IntKind.min,IntKind.max,IntKind.signed,IntKind.bits] using hwf
 exact ⟨k,rfl,hwf'⟩
theorem open_bytes {fuel:Nat} {v:Value} {d:DataW H} {p:List MemPlace} (h:DataW.trod enc Tryz.prog w0 0 (fun _=>true) true fuel 35 [v]=some (d,p)) (hB:∀ n∈d.weights Tryz.prog 35,n≤reachBytes) :
  ∃ l:List Bt,RdL w0 0 v l∧l.length*1≤reachBytes:=by
 obtain ⟨l,h1,h2,_⟩:=open_list (α:=Bt) (B:=1) (fun _=>True) Tryz.underlying35 (show Tryz.prog.cellsOf 5=1 by kernel_rfl) (by decide) (by kernel_rfl) (fun n x D Pl hx _=>by
  obtain ⟨k,rfl,_,hwf⟩:=DataW.trod_int Tryz.underlying5 hx
  have hwf':0≤k∧k≤255:=by simpa [Lit.wf,IntKind.min,IntKind.max,IntKind.signed,IntKind.bits] using hwf
  refine ⟨⟨k.toNat,by omega⟩,?_,trivial⟩
  show [Value.int .u8 k]=[Value.int .u8 (k.toNat:Int)]
  rw [Int.toNat_of_nonneg hwf'.1]) h hB
 exact ⟨l,h1,h2⟩
theorem open_write {n:Nat} {x:List Value} {D:DataW H} {Pl:List MemPlace} (h:DataW.trod enc Tryz.prog w0 0 (fun _=>true) true n 44 x=some (D,Pl)) (hB:∀ m∈D.weights Tryz.prog 44,m≤reachBytes) :
  ∃ q:Wr,Rep.rd w0 0 q x∧q.data.length≤140737488355328:=by
 obtain ⟨y0,y1,n,hd,hl,h0,h1⟩:=trod_struct2 Tryz.underlying44 h
 simp only [Prod.mk.injEq] at hd
 obtain ⟨rfl,rfl⟩:=hd
 rw [show Tryz.prog.cellsOf 44=2 by kernel_rfl] at hl
 obtain ⟨c0,c1,rfl⟩:∃ c0 c1,x=[c0,c1]:=by
  match x,hl with
  | [c0,c1],_=>exact ⟨c0,c1,rfl⟩
 have h0':DataW.trod enc Tryz.prog w0 0 (fun _=>true) true n 3 (([c0,c1].drop 0).take (Tryz.prog.cellsOf 3))=some y0:=h0
 have h1':DataW.trod enc Tryz.prog w0 0 (fun _=>true) true n 35 (([c0,c1].drop 1).take (Tryz.prog.cellsOf 35))=some y1:=h1
 rw [show Tryz.prog.cellsOf 3=1 by kernel_rfl] at h0'
 rw [show Tryz.prog.cellsOf 35=1 by kernel_rfl] at h1'
 obtain ⟨s,hs,_⟩:=open_int1 (D:=y0.1) (Pl:=y0.2) h0'
 simp only [List.drop_zero,List.take_succ_cons,List.take_zero,List.cons.injEq,and_true] at hs
 subst hs
 obtain ⟨l,hr,hll⟩:=open_bytes (d:=y1.1) (p:=y1.2) h1' (fun m hm=>hB m (by
  simp only [DataW.weights,Tryz.underlying44]
  exact DataW.weights_mem_each (j:=1) (t:=35) G G m hm))
 obtain ⟨a,c,rfl⟩:=hr.shape
 exact ⟨⟨s,l⟩,⟨a,c,rfl,hr⟩,by show l.length≤_; have:=reachBytes_lt; omega⟩
theorem open_writes {fuel:Nat} {v:Value} {d:DataW H} {p:List MemPlace} (h:DataW.trod enc Tryz.prog w0 0 (fun _=>true) true fuel 22 [v]=some (d,p)) (hB:∀ n∈d.weights Tryz.prog 22,n≤reachBytes) :
  ∃ l:List Wr,RdL w0 0 v l∧l.length*32≤reachBytes∧∀ w∈l,w.data.length≤140737488355328 :=
 open_list (α:=Wr) (B:=32) (fun w=>w.data.length≤140737488355328) Tryz.underlying22 (show Tryz.prog.cellsOf 44=2 by kernel_rfl) (by decide) (by kernel_rfl) (fun n x D Pl hx hw=>open_write hx hw) h hB
end
end Go.Proofs.YtfahijncpmlhjaaGreat.clIn
namespace Go.Proofs.YtfahijncpmlhjaaGreat.clientReads
open Sl clIn
open Go.ChangeShapes Go.WideShapes Go.ChangeAt Go.RowKit Go.Deep
theorem walk (w:World) (v0:Value) (l0:List Wr) (r0:RdL w 0 v0 l0) (b0:l0.length≤17592186044416) (q0:∀ x∈l0,x.data.length≤140737488355328) :
  Calls Tryz.prog 3 #[v0] w fun e w'=>e=.returned (.bool true)∧Below w.heap.size w w':=by
 have h:=reads_spec w v0 l0 r0 b0 q0 w 0 (by rw [hzero_add]; exact St.start w)
 refine h.mono ?_
 rintro e w' ⟨v,h',rfl,⟨rfl,rfl⟩,hst⟩
 exact ⟨rfl,hst.below⟩
set_option maxRecDepth 100000 in
theorem lifted (os:Os) (started:os.Started) (H:Type) (enc:TypeId × Value→H) :
  ReturnsInHanded {} Tryz.checked os 3 .any (Rows.clientReadsSpec.pre6 enc Tryz.prog Tryz.f3 Rows.clientReadsRow.domain false) (Rows.clientReadsSpec.post enc Tryz.prog Tryz.f3 false true false false):=by
 refine returnsInHanded_of_change_sized (C:=Tryz.checked) own started (by kernel_rfl) Tryz.func3
  (ChangeSpec.witness6 (enc:=enc) (C:=Tryz.checked) false ⟨#[],#[.slice none 0 0],[]⟩ 8 (by kernel_rfl) (by kernel_rfl) (by kernel_rfl) (by kernel_rfl)) ?_
 intro W base args ds gs before hval0 hW hcnd hsz0 _
 have hsz:(DataW.weightsEach Tryz.prog (Tryz.f3.params.toList++Rows.clientReadsSpec.plain.varTypes Tryz.prog) (ds++gs)).all (·≤reachBytes)=true:=hsz0
 clear hsz0
 have hval:∀ (j:Nat) t v,Tryz.f3.params[j]?=some t→args[j]?=some v→Value.okWide Tryz.prog W .any base t v:=hval0
 have hW':=hW
 obtain ⟨p,q,hA0,hV,rfl,hfz,hnd⟩:=hW
 have hA:DataW.TrodAll enc Tryz.prog W 0 (fun _=>true) true Tryz.f3.params.toList args.toList ds p:=hA0
 rw [Tryz.params3] at hA hval
 obtain ⟨v0,vs0,d0,ds0,p0,q0,hargs,rfl,rfl,h0,r0⟩:=trodAll_cons hA
 obtain ⟨rfl,rfl,rfl⟩:=trodAll_nil r0
 obtain rfl:args=#[v0]:=by cases args; simp_all
 obtain ⟨rfl,rfl⟩:=trodVars_none hV
 have k0:=h0
 have lt0:∀ x∈p0,x.block<W.heap.size:=by obtain ⟨m,hm⟩:=k0; exact DataW.trod_lt m _ _ _ hm
 obtain ⟨a0,len0,cap0,rfl⟩:=okWide_slice Tryz.underlying22 (hval 0 22 v0 rfl rfl)
 obtain ⟨l0,w0,z0,y0⟩:∃ l:List Wr,RdL W 0 (.slice a0 len0 cap0) l∧l.length*32≤reachBytes∧∀ x∈l,x.data.length≤140737488355328:=by
  obtain ⟨fuel,hf⟩:=h0
  exact open_writes hf (fun m hm=>by simpa using List.all_eq_true.1 hsz m (DataW.weights_mem_each (j:=0) (t:=22) G G m hm))
 clear hA0 hval0 hsz
 refine (walk W _ l0 w0 (by have:=reachBytes_lt; omega) y0).mono fun e W' ⟨he,bel⟩=>?_
 subst he
 exact ⟨_,rfl,_,_,_,[],_,[],hW',trodAll_mk1 (shut_bool Tryz.underlying4 _),(trodAll_cons_mk (Below.trod laidOut (by kernel_rfl) (of_decide_eq_true (by kernel_rfl)) k0 bel lt0) trodAll_mk0),rfl,bel.frame _,fun h=>by cases h⟩
def j1 (P:Program) (f:FuncId) (fn:Func) (s:ChangeSpec) (c:OpenClaim):Bool:=laidOutB P
def j2 (P:Program) (f:FuncId) (fn:Func) (s:ChangeSpec) (c:OpenClaim):Bool:=mapsRowed P
def j9 (P:Program) (f:FuncId) (fn:Func) (s:ChangeSpec) (c:OpenClaim):Bool:=(c.inPlace==P.inPlace f)
def j10 (P:Program) (f:FuncId) (fn:Func) (s:ChangeSpec) (c:OpenClaim):Bool:=(c.unfollowed==P.unfollowed f)
def j11 (P:Program) (f:FuncId) (fn:Func) (s:ChangeSpec) (c:OpenClaim):Bool:=(c.recurses==P.recurses f)
def j12 (P:Program) (f:FuncId) (fn:Func) (s:ChangeSpec) (c:OpenClaim):Bool:=(c.named==P.varsNamed f)
def j22 (P:Program) (f:FuncId) (fn:Func) (s:ChangeSpec) (c:OpenClaim):Bool:=(c.plainKeys==P.plainKeys)
def j24 (P:Program) (f:FuncId) (fn:Func) (s:ChangeSpec) (c:OpenClaim):Bool:=P.stopsHeard
def j25 (P:Program) (f:FuncId) (fn:Func) (s:ChangeSpec) (c:OpenClaim):Bool:=P.mayEnter
def j26 (P:Program) (f:FuncId) (fn:Func) (s:ChangeSpec) (c:OpenClaim):Bool:=(c.lifted==P.liftsFinal)
def j27 (P:Program) (f:FuncId) (fn:Func) (s:ChangeSpec) (c:OpenClaim):Bool:=(P.make==some c.make)
def jr (P:Program) (f:FuncId) (fn:Func) (s:ChangeSpec) (c:OpenClaim):Bool:=c.wf (OpenSpec.ofChange s)&&fn.params.all (P.readableRec ·)&&namedTie P c.named s.vars&&(c.stops==[])&&(P.stops==[])&&(c.knobs==[])&&(P.stopKnobs==[])&&(c.maps==(fn.params.toList++s.plain.varTypes P).any (P.mapsRec ·))&&(c.ifaces==(fn.params.toList++s.plain.varTypes P).any (P.ifacesRec ·))&&(c.mapsOut==P.mapsAmong fn.resultTypes.toList)&&(c.loops==(fn.params.toList++s.plain.varTypes P).any (P.loopsFrom ·))&&(c.wideKeys==(fn.params.toList++s.plain.varTypes P++fn.resultTypes.toList).any (P.wideKeysFrom ·))&&s.vars.all (P.varReadable ·)&&fn.resultTypes.all (fun t=>P.readableRec t&&decide (t<P.types.size))&&(c.ifacesOut==fn.resultTypes.toList.any (P.ifacesRec ·))&&(c.loopsOut==fn.resultTypes.toList.any (P.loopsFrom ·))&&c.shortTexts.isNone&&(c.kinds==(if c.domain.isEmpty then [] else fn.params.toList.map fun t=>match P.underlying t with|some (.int k)=>some k|_=>none))&&(c.pinned==c.pinnedBy)&&(c.veiled==(fn.params.toList++s.plain.varTypes P++fn.resultTypes.toList).any (P.veiledRec ·))&&c.veiledFits P fn.params.toList (fn.params.toList++s.plain.varTypes P++fn.resultTypes.toList)
theorem joined {P:Program} {f:FuncId} {fn:Func} {s:ChangeSpec} {c:OpenClaim} (hr:jr P f fn s c=true) (h1:j1 P f fn s c=true) (h2:j2 P f fn s c=true) (h9:j9 P f fn s c=true) (h10:j10 P f fn s c=true) (h11:j11 P f fn s c=true) (h12:j12 P f fn s c=true) (h22:j22 P f fn s c=true) (h24:j24 P f fn s c=true) (h25:j25 P f fn s c=true) (h26:j26 P f fn s c=true) (h27:j27 P f fn s c=true):joinedFacts P f fn s c=true:=by
 unfold jr at hr
 unfold j1 at h1
 unfold j2 at h2
 unfold j9 at h9
 unfold j10 at h10
 unfold j11 at h11
 unfold j12 at h12
 unfold j22 at h22
 unfold j24 at h24
 unfold j25 at h25
 unfold j26 at h26
 unfold j27 at h27
 unfold joinedFacts
 simp only [Bool.and_eq_true] at hr ⊢
 obtain ⟨⟨⟨⟨⟨⟨⟨⟨⟨⟨⟨⟨⟨⟨⟨⟨⟨⟨⟨⟨r0,r3⟩,r4⟩,r5⟩,r6⟩,r7⟩,r8⟩,r13⟩,r14⟩,r15⟩,r16⟩,r17⟩,r18⟩,r19⟩,r20⟩,r21⟩,r23⟩,r28⟩,r29⟩,r30⟩,r31⟩:=hr
 exact ⟨⟨⟨⟨⟨⟨⟨⟨⟨⟨⟨⟨⟨⟨⟨⟨⟨⟨⟨⟨⟨⟨⟨⟨⟨⟨⟨⟨⟨⟨⟨r0,h1⟩,h2⟩,r3⟩,r4⟩,r5⟩,r6⟩,r7⟩,r8⟩,h9⟩,h10⟩,h11⟩,h12⟩,r13⟩,r14⟩,r15⟩,r16⟩,r17⟩,r18⟩,r19⟩,r20⟩,r21⟩,h22⟩,r23⟩,h24⟩,h25⟩,h26⟩,h27⟩,r28⟩,r29⟩,r30⟩,r31⟩
theorem fact1 :j1 Tryz.prog 3 Tryz.f3 Rows.clientReadsSpec Rows.clientReadsRow=true:=by kernel_rfl
theorem fact2 :j2 Tryz.prog 3 Tryz.f3 Rows.clientReadsSpec Rows.clientReadsRow=true:=by kernel_rfl
theorem fact9 :j9 Tryz.prog 3 Tryz.f3 Rows.clientReadsSpec Rows.clientReadsRow=true:=by kernel_rfl
theorem fact10 :j10 Tryz.prog 3 Tryz.f3 Rows.clientReadsSpec Rows.clientReadsRow=true:=by kernel_rfl
theorem fact11 :j11 Tryz.prog 3 Tryz.f3 Rows.clientReadsSpec Rows.clientReadsRow=true:=by kernel_rfl
theorem fact12 :j12 Tryz.prog 3 Tryz.f3 Rows.clientReadsSpec Rows.clientReadsRow=true:=by kernel_rfl
theorem fact22 :j22 Tryz.prog 3 Tryz.f3 Rows.clientReadsSpec Rows.clientReadsRow=true:=by kernel_rfl
theorem fact24 :j24 Tryz.prog 3 Tryz.f3 Rows.clientReadsSpec Rows.clientReadsRow=true:=by kernel_rfl
theorem fact25 :j25 Tryz.prog 3 Tryz.f3 Rows.clientReadsSpec Rows.clientReadsRow=true:=by kernel_rfl
theorem fact26 :j26 Tryz.prog 3 Tryz.f3 Rows.clientReadsSpec Rows.clientReadsRow=true:=by kernel_rfl
theorem fact27 :j27 Tryz.prog 3 Tryz.f3 Rows.clientReadsSpec Rows.clientReadsRow=true:=by kernel_rfl
theorem factr :jr Tryz.prog 3 Tryz.f3 Rows.clientReadsSpec Rows.clientReadsRow=true:=by kernel_rfl
theorem over :Rows.clientReadsRow.holds Tryz.pinned (OpenSpec.ofChange Rows.clientReadsSpec) :=
 OpenClaim.holds_of_wide 3 Tryz.f3 G G G G G G G ⟨rfl,rfl,rfl,rfl,rfl⟩ rfl G G G G (by kernel_rfl) Tryz.func3 (joined factr fact1 fact2 fact9 fact10 fact11 fact12 fact22 fact24 fact25 fact26 fact27)
  (of_decide_eq_true (by kernel_rfl)) (by unfold Func.isWrapper; first|(rw [if_pos (by decide +kernel)]; kernel_rfl)|(rw [if_neg (by decide +kernel)]; exact ⟨rfl,rfl⟩))
  (fun os started H enc _=>lifted os started H enc)
theorem proved :Rows.ClientReadsSaid:=over
end Go.Proofs.YtfahijncpmlhjaaGreat.clientReads
