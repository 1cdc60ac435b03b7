/-
  shardServes.proved: for all that is handed in the law function returns true, and what it is given reads as it did. No condition. (Also: Open, ShIn, CServes.)
-/
import Derived.Test.YtpkealohodeifaaGreatSe1
import Derived.Deep.Slices
import Derived.Deep.Strs
import Derived.Lib.SmallJoins
import Derived.ChangeArms
import Derived.SizedLaws
import Derived.Test.YtpkealohodeifaaGreatRows
import Derived.WalkKit
import Derived.ProofKit
import Derived.OpenShut
import Derived.ShutString
import Derived.ChangeOld
import Derived.Below
import Derived.Test.YtpkealohodeifaaGreatSe6
import Derived.Test.YtpkealohodeifaaGreatSe7
set_option linter.unusedVariables false
set_option linter.unusedSimpArgs false
namespace Go.Proofs.YtpkealohodeifaaGreat
open Go Go.RowKit Go.ChangeShapes Go.WideShapes Go.ChangeAt Go.Deep
namespace Sl
section
variable {H:Type} {enc:TypeId × Value→H} {P:Program} {w0:World}
theorem weightsAll_mem' {e:TypeId}:∀ {l:List (DataW H)} {d:DataW H},d∈l→∀ n∈d.weights P e,n∈DataW.weightsAll P e l
 | x::l,d,hd,n,hn=>by
  simp only [DataW.weightsAll]
  rcases List.mem_cons.1 hd with rfl|hd
  ·exact List.mem_append_left _ hn
  ·exact List.mem_append_right _ (weightsAll_mem' hd n hn)
theorem open_rd {t e:TypeId} {sz fuel:Nat} {v:Value} {d:DataW H} {p:List MemPlace} (ht:P.underlying t=some (.slice e)) (hsz:P.cellsOf e=sz) (h0:0<sz)
  (h:DataW.trod enc P w0 0 (fun _=>true) true fuel t [v]=some (d,p)) {B:Nat} (hB:∀ n∈d.weights P t,n≤B) :
  ∃ es,RdRow w0 0 sz v es∧es.length*P.bytesOf e≤B∧∀ (i:Nat) (x:List Value),es[i]?=some x→∃ D Pl n,DataW.trod enc P w0 0 (fun _=>true) true n e x=some (D,Pl)∧∀ m∈D.weights P e,m≤B:=by
 rcases open_slice ht h with ⟨hc,hx⟩|⟨a,len,cap,m,n,D,Pl,hc,hb,hl,hm,hmm,hx,hall⟩
 ·simp only [List.cons.injEq,and_true] at hc
  subst hc
  exact ⟨[],⟨none,0,rfl,by simp,fun i x hx=>by simp at hx⟩,by simp,fun i x hx=>by simp at hx⟩
 ·simp only [List.cons.injEq,and_true] at hc
  subst hc
  simp only [if_true] at hmm
  subst hmm
  simp only [Prod.mk.injEq] at hx
  obtain ⟨rfl,rfl⟩:=hx
  rw [hsz] at hall
  obtain ⟨F,hF⟩:=choose_lt (α:=List Value) hall
  have hat:∀ (i:Nat) (x:List Value),((List.range len).map F)[i]?=some x→i<len∧x=F i:=by
   intro i x hx
   rw [List.getElem?_map] at hx
   by_cases hi:i<len
   ·rw [List.getElem?_range hi] at hx
    exact ⟨hi,(Option.some.inj hx).symm⟩
   ·rw [List.getElem?_eq_none (by simpa using hi)] at hx; cases hx
  have hlen:∀ i,i<len→(F i).length=sz:=fun i hi=>(World.cells?_some (hF i (by omega)).1).2.1
  refine ⟨(List.range len).map F,⟨some a,m,by simp,?_,?_⟩,?_,?_⟩
  ·intro x hx
   obtain ⟨i,hi,rfl⟩:=List.mem_map.1 hx
   exact hlen i (List.mem_range.1 hi)
  ·intro i x hx
   obtain ⟨hi,rfl⟩:=hat i x hx
   have hspot:a.spot=none:=by
    obtain ⟨_,h2,h3⟩:=World.cells?_some (hF 0 (by omega)).1
    have h4:=h3 0 h0
    rw [List.getElem?_eq_getElem (show 0<(F 0).length by omega)] at h4
    simpa [Addr.add] using World.cell?_spot h4
   obtain ⟨b,off,spot⟩:=a
   obtain rfl:spot=none:=hspot
   refine ⟨b,off,rfl,fun j u hu=>?_⟩
   obtain ⟨_,h2,h3⟩:=World.cells?_some (hF i (by omega)).1
   have hj:j<sz:=by rw [← h2]; exact (List.getElem?_eq_some_iff.1 hu).1
   have h4:=h3 j hj
   rw [add_none,add_none,hu] at h4
   exact reads_base h4
  ·have:=hB ((((List.range len).map D).length+((List.range (m - len)).map fun j=>D (len+j)).length)*P.bytesOf e) (by simp [DataW.weights,ht])
   refine Nat.le_trans (Nat.mul_le_mul_right _ ?_) this
   simp
  ·intro i x hx
   obtain ⟨hi,rfl⟩:=hat i x hx
   refine ⟨D i,Pl i,n,(hF i (by omega)).2,fun q hq=>hB q ?_⟩
   simp only [DataW.weights,ht]
   refine List.mem_cons_of_mem _ (List.mem_append_left _ (weightsAll_mem' (List.mem_map.2 ⟨i,List.mem_range.2 hi,rfl⟩) q hq))
end
end Sl
end Go.Proofs.YtpkealohodeifaaGreat
namespace Go.Proofs.YtpkealohodeifaaGreat.shIn
open Sl
open Go.ChangeShapes Go.WideShapes Go.ChangeAt Go.RowKit Go.Deep Go.Joins
set_option maxRecDepth 100000
theorem own :ownKnob Tryz.prog.godebug=none:=by kernel_rfl
theorem laidOut :laidOutB Tryz.prog=true:=by kernel_rfl
section
variable {H:Type} {enc:TypeId × Value→H} {w0:World}
theorem all2_of {α:Type} {R:α→List Value→Prop} {Q:α→Prop}:∀ {es:List (List Value)},(∀ (i:Nat) (x:List Value),es[i]?=some x→∃ q,R q x∧Q q)→∃ l:List α,All2 R l es∧∀ q∈l,Q q
 | [],_=>⟨[],trivial,by simp⟩
 | x::es,h=>by
  obtain ⟨q,hq,hQ⟩:=h 0 x rfl
  obtain ⟨l,hl,hQs⟩:=all2_of (es:=es) (R:=R) (Q:=Q) fun i y hy=>h (i+1) y (by simpa using hy)
  exact ⟨q::l,⟨hq,hl⟩,by simpa using ⟨hQ,hQs⟩⟩
theorem open_list {α:Type} [ρ:Rep α] (Q:α→Prop) {t e:TypeId} {B fuel:Nat} {v:Value} {d:DataW H} {p:List MemPlace} (ht:Tryz.prog.underlying t=some (.slice e)) (hsz:Tryz.prog.cellsOf e=ρ.size) (h0:0<ρ.size) (hb:Tryz.prog.bytesOf e=B)
  (hel:∀ (n:Nat) (x:List Value) (D:DataW H) (Pl:List MemPlace),DataW.trod enc Tryz.prog w0 0 (fun _=>true) true n e x=some (D,Pl)→(∀ m∈D.weights Tryz.prog e,m≤reachBytes)→∃ q,ρ.rd w0 0 q x∧Q q)
  (h:DataW.trod enc Tryz.prog w0 0 (fun _=>true) true fuel t [v]=some (d,p)) (hB:∀ n∈d.weights Tryz.prog t,n≤reachBytes) :
  ∃ l,RdL w0 0 v l∧l.length*B≤reachBytes∧∀ q∈l,Q q:=by
 obtain ⟨es,hr,hl,hi⟩:=open_rd ht hsz h0 h hB
 obtain ⟨l,ha,hq⟩:=all2_of (R:=ρ.rd w0 0) (Q:=Q) fun i x hx=>by
  obtain ⟨D,Pl,n,h1,h2⟩:=hi i x hx
  exact hel n x D Pl h1 h2
 rw [hb,ha.length] at hl
 exact ⟨l,⟨es,hr,ha⟩,hl,hq⟩
theorem open_int1 {n:Nat} {x:List Value} {D:DataW H} {Pl:List MemPlace} (h:DataW.trod enc Tryz.prog w0 0 (fun _=>true) true n 3 x=some (D,Pl)):∃ k:Int,x=[.int .i64 k]∧I64 k:=by
 obtain ⟨k,rfl,_,hwf⟩:=DataW.trod_int Tryz.underlying3 h
 have hwf':-9223372036854775808≤k∧k≤9223372036854775807:=by simpa [Lit.wf,IntKind.min,IntKind.max,IntKind.signed,IntKind.bits] using hwf
 exact ⟨k,rfl,hwf'⟩
theorem open_ints {fuel:Nat} {v:Value} {d:DataW H} {p:List MemPlace} (h:DataW.trod enc Tryz.prog w0 0 (fun _=>true) true fuel 29 [v]=some (d,p)) (hB:∀ n∈d.weights Tryz.prog 29,n≤reachBytes) :
  ∃ l:List Int,RdL w0 0 v l∧l.length*8≤reachBytes:=by
 obtain ⟨l,h1,h2,_⟩:=open_list (α:=Int) (B:=8) (fun _=>True) Tryz.underlying29 (show Tryz.prog.cellsOf 3=1 by kernel_rfl) (by decide) (by kernel_rfl) (fun n x D Pl hx _=>by
  obtain ⟨k,rfl,_⟩:=open_int1 hx
  exact ⟨k,rfl,trivial⟩) h hB
 exact ⟨l,h1,h2⟩
theorem open_bytes {fuel:Nat} {v:Value} {d:DataW H} {p:List MemPlace} (h:DataW.trod enc Tryz.prog w0 0 (fun _=>true) true fuel 22 [v]=some (d,p)) (hB:∀ n∈d.weights Tryz.prog 22,n≤reachBytes) :
  ∃ l:List Bt,RdL w0 0 v l∧l.length*1≤reachBytes:=by
 obtain ⟨l,h1,h2,_⟩:=open_list (α:=Bt) (B:=1) (fun _=>True) Tryz.underlying22 (show Tryz.prog.cellsOf 5=1 by kernel_rfl) (by decide) (by kernel_rfl) (fun n x D Pl hx _=>by
  obtain ⟨k,rfl,_,hwf⟩:=DataW.trod_int Tryz.underlying5 hx
  have hwf':0≤k∧k≤255:=by simpa [Lit.wf,IntKind.min,IntKind.max,IntKind.signed,IntKind.bits] using hwf
  refine ⟨⟨k.toNat,by omega⟩,?_,trivial⟩
  show [Value.int .u8 k]=[Value.int .u8 (k.toNat:Int)]
  rw [Int.toNat_of_nonneg hwf'.1]) h hB
 exact ⟨l,h1,h2⟩
theorem open_write {n:Nat} {x:List Value} {D:DataW H} {Pl:List MemPlace} (h:DataW.trod enc Tryz.prog w0 0 (fun _=>true) true n 100 x=some (D,Pl)) (hB:∀ m∈D.weights Tryz.prog 100,m≤reachBytes) :
  ∃ q:Wr,Rep.rd w0 0 q x∧q.data.length≤140737488355328:=by
 obtain ⟨y0,y1,n,hd,hl,h0,h1⟩:=trod_struct2 Tryz.underlying100 h
 simp only [Prod.mk.injEq] at hd
 obtain ⟨rfl,rfl⟩:=hd
 rw [show Tryz.prog.cellsOf 100=2 by kernel_rfl] at hl
 obtain ⟨c0,c1,rfl⟩:∃ c0 c1,x=[c0,c1]:=by
  match x,hl with
  | [c0,c1],_=>exact ⟨c0,c1,rfl⟩
 have h0':DataW.trod enc Tryz.prog w0 0 (fun _=>true) true n 3 (([c0,c1].drop 0).take (Tryz.prog.cellsOf 3))=some y0:=h0
 have h1':DataW.trod enc Tryz.prog w0 0 (fun _=>true) true n 22 (([c0,c1].drop 1).take (Tryz.prog.cellsOf 22))=some y1:=h1
 rw [show Tryz.prog.cellsOf 3=1 by kernel_rfl] at h0'
 rw [show Tryz.prog.cellsOf 22=1 by kernel_rfl] at h1'
 obtain ⟨s,hs,_⟩:=open_int1 (D:=y0.1) (Pl:=y0.2) h0'
 simp only [List.drop_zero,List.take_succ_cons,List.take_zero,List.cons.injEq,and_true] at hs
 subst hs
 obtain ⟨l,hr,hll⟩:=open_bytes (d:=y1.1) (p:=y1.2) h1' (fun m hm=>hB m (by
  simp only [DataW.weights,Tryz.underlying100]
  exact DataW.weights_mem_each (j:=1) (t:=22) G G m hm))
 obtain ⟨a,c,rfl⟩:=hr.shape
 exact ⟨⟨s,l⟩,⟨a,c,rfl,hr⟩,by show l.length≤_; have:=reachBytes_lt; omega⟩
theorem open_writes {fuel:Nat} {v:Value} {d:DataW H} {p:List MemPlace} (h:DataW.trod enc Tryz.prog w0 0 (fun _=>true) true fuel 47 [v]=some (d,p)) (hB:∀ n∈d.weights Tryz.prog 47,n≤reachBytes) :
  ∃ l:List Wr,RdL w0 0 v l∧l.length*32≤reachBytes∧∀ w∈l,w.data.length≤140737488355328 :=
 open_list (α:=Wr) (B:=32) (fun w=>w.data.length≤140737488355328) Tryz.underlying47 (show Tryz.prog.cellsOf 100=2 by kernel_rfl) (by decide) (by kernel_rfl) (fun n x D Pl hx hw=>open_write hx hw) h hB
theorem open_op {fuel:Nat} {x:List Value} {D:DataW H} {Pl:List MemPlace} (h:DataW.trod enc Tryz.prog w0 0 (fun _=>true) true fuel 49 x=some (D,Pl)) (hB:∀ m∈D.weights Tryz.prog 49,m≤reachBytes) :
  ∃ q:Opn,Rep.rd w0 0 q x∧LenO q∧NumsIn q:=by
 obtain ⟨xs,n,_,hd,hl,hlen,hf⟩:=DataW.trod_struct Tryz.underlying49 h
 have hlen':xs.length=17:=hlen
 clear hlen
 obtain ⟨y0,y1,y2,y3,y4,y5,y6,y7,y8,y9,y10,y11,y12,y13,y14,y15,y16,rfl⟩:∃ y0 y1 y2 y3 y4 y5 y6 y7 y8 y9 y10 y11 y12 y13 y14 y15 y16,xs=[y0,y1,y2,y3,y4,y5,y6,y7,y8,y9,y10,y11,y12,y13,y14,y15,y16]:=by
  match xs,hlen' with
  | [y0,y1,y2,y3,y4,y5,y6,y7,y8,y9,y10,y11,y12,y13,y14,y15,y16],_=>exact ⟨y0,y1,y2,y3,y4,y5,y6,y7,y8,y9,y10,y11,y12,y13,y14,y15,y16,rfl⟩
 simp only [Prod.mk.injEq,List.map_cons,List.map_nil] at hd
 obtain ⟨rfl,_⟩:=hd
 rw [show Tryz.prog.cellsOf 49=17 by kernel_rfl] at hl
 obtain ⟨c0,c1,c2,c3,c4,c5,c6,c7,c8,c9,c10,c11,c12,c13,c14,c15,c16,rfl⟩:∃ c0 c1 c2 c3 c4 c5 c6 c7 c8 c9 c10 c11 c12 c13 c14 c15 c16,x=[c0,c1,c2,c3,c4,c5,c6,c7,c8,c9,c10,c11,c12,c13,c14,c15,c16]:=by
  match x,hl with
  | [c0,c1,c2,c3,c4,c5,c6,c7,c8,c9,c10,c11,c12,c13,c14,c15,c16],_=>exact ⟨c0,c1,c2,c3,c4,c5,c6,c7,c8,c9,c10,c11,c12,c13,c14,c15,c16,rfl⟩
 have h0:DataW.trod enc Tryz.prog w0 0 (fun _=>true) true n 3 (([c0,c1,c2,c3,c4,c5,c6,c7,c8,c9,c10,c11,c12,c13,c14,c15,c16].drop 0).take (Tryz.prog.cellsOf 3))=some y0:=hf 0 _ rfl
 rw [show Tryz.prog.cellsOf 3=1 by kernel_rfl] at h0
 obtain ⟨n0,e0,u0⟩:=open_int1 (D:=y0.1) (Pl:=y0.2) h0
 simp only [List.drop_zero,List.drop_succ_cons,List.take_succ_cons,List.take_zero,List.cons.injEq,and_true] at e0
 have h1:DataW.trod enc Tryz.prog w0 0 (fun _=>true) true n 3 (([c0,c1,c2,c3,c4,c5,c6,c7,c8,c9,c10,c11,c12,c13,c14,c15,c16].drop 1).take (Tryz.prog.cellsOf 3))=some y1:=hf 1 _ rfl
 rw [show Tryz.prog.cellsOf 3=1 by kernel_rfl] at h1
 obtain ⟨n1,e1,u1⟩:=open_int1 (D:=y1.1) (Pl:=y1.2) h1
 simp only [List.drop_zero,List.drop_succ_cons,List.take_succ_cons,List.take_zero,List.cons.injEq,and_true] at e1
 have h2:DataW.trod enc Tryz.prog w0 0 (fun _=>true) true n 3 (([c0,c1,c2,c3,c4,c5,c6,c7,c8,c9,c10,c11,c12,c13,c14,c15,c16].drop 2).take (Tryz.prog.cellsOf 3))=some y2:=hf 2 _ rfl
 rw [show Tryz.prog.cellsOf 3=1 by kernel_rfl] at h2
 obtain ⟨n2,e2,u2⟩:=open_int1 (D:=y2.1) (Pl:=y2.2) h2
 simp only [List.drop_zero,List.drop_succ_cons,List.take_succ_cons,List.take_zero,List.cons.injEq,and_true] at e2
 have h3:DataW.trod enc Tryz.prog w0 0 (fun _=>true) true n 3 (([c0,c1,c2,c3,c4,c5,c6,c7,c8,c9,c10,c11,c12,c13,c14,c15,c16].drop 3).take (Tryz.prog.cellsOf 3))=some y3:=hf 3 _ rfl
 rw [show Tryz.prog.cellsOf 3=1 by kernel_rfl] at h3
 obtain ⟨n3,e3,u3⟩:=open_int1 (D:=y3.1) (Pl:=y3.2) h3
 simp only [List.drop_zero,List.drop_succ_cons,List.take_succ_cons,List.take_zero,List.cons.injEq,and_true] at e3
 have h4:DataW.trod enc Tryz.prog w0 0 (fun _=>true) true n 3 (([c0,c1,c2,c3,c4,c5,c6,c7,c8,c9,c10,c11,c12,c13,c14,c15,c16].drop 4).take (Tryz.prog.cellsOf 3))=some y4:=hf 4 _ rfl
 rw [show Tryz.prog.cellsOf 3=1 by kernel_rfl] at h4
 obtain ⟨n4,e4,u4⟩:=open_int1 (D:=y4.1) (Pl:=y4.2) h4
 simp only [List.drop_zero,List.drop_succ_cons,List.take_succ_cons,List.take_zero,List.cons.injEq,and_true] at e4
 have h5:DataW.trod enc Tryz.prog w0 0 (fun _=>true) true n 3 (([c0,c1,c2,c3,c4,c5,c6,c7,c8,c9,c10,c11,c12,c13,c14,c15,c16].drop 5).take (Tryz.prog.cellsOf 3))=some y5:=hf 5 _ rfl
 rw [show Tryz.prog.cellsOf 3=1 by kernel_rfl] at h5
 obtain ⟨n5,e5,u5⟩:=open_int1 (D:=y5.1) (Pl:=y5.2) h5
 simp only [List.drop_zero,List.drop_succ_cons,List.take_succ_cons,List.take_zero,List.cons.injEq,and_true] at e5
 have h6:DataW.trod enc Tryz.prog w0 0 (fun _=>true) true n 3 (([c0,c1,c2,c3,c4,c5,c6,c7,c8,c9,c10,c11,c12,c13,c14,c15,c16].drop 6).take (Tryz.prog.cellsOf 3))=some y6:=hf 6 _ rfl
 rw [show Tryz.prog.cellsOf 3=1 by kernel_rfl] at h6
 obtain ⟨n6,e6,u6⟩:=open_int1 (D:=y6.1) (Pl:=y6.2) h6
 simp only [List.drop_zero,List.drop_succ_cons,List.take_succ_cons,List.take_zero,List.cons.injEq,and_true] at e6
 have h7:DataW.trod enc Tryz.prog w0 0 (fun _=>true) true n 3 (([c0,c1,c2,c3,c4,c5,c6,c7,c8,c9,c10,c11,c12,c13,c14,c15,c16].drop 7).take (Tryz.prog.cellsOf 3))=some y7:=hf 7 _ rfl
 rw [show Tryz.prog.cellsOf 3=1 by kernel_rfl] at h7
 obtain ⟨n7,e7,u7⟩:=open_int1 (D:=y7.1) (Pl:=y7.2) h7
 simp only [List.drop_zero,List.drop_succ_cons,List.take_succ_cons,List.take_zero,List.cons.injEq,and_true] at e7
 have h8:DataW.trod enc Tryz.prog w0 0 (fun _=>true) true n 3 (([c0,c1,c2,c3,c4,c5,c6,c7,c8,c9,c10,c11,c12,c13,c14,c15,c16].drop 8).take (Tryz.prog.cellsOf 3))=some y8:=hf 8 _ rfl
 rw [show Tryz.prog.cellsOf 3=1 by kernel_rfl] at h8
 obtain ⟨n8,e8,u8⟩:=open_int1 (D:=y8.1) (Pl:=y8.2) h8
 simp only [List.drop_zero,List.drop_succ_cons,List.take_succ_cons,List.take_zero,List.cons.injEq,and_true] at e8
 have h9:DataW.trod enc Tryz.prog w0 0 (fun _=>true) true n 3 (([c0,c1,c2,c3,c4,c5,c6,c7,c8,c9,c10,c11,c12,c13,c14,c15,c16].drop 9).take (Tryz.prog.cellsOf 3))=some y9:=hf 9 _ rfl
 rw [show Tryz.prog.cellsOf 3=1 by kernel_rfl] at h9
 obtain ⟨n9,e9,u9⟩:=open_int1 (D:=y9.1) (Pl:=y9.2) h9
 simp only [List.drop_zero,List.drop_succ_cons,List.take_succ_cons,List.take_zero,List.cons.injEq,and_true] at e9
 have h10:DataW.trod enc Tryz.prog w0 0 (fun _=>true) true n 3 (([c0,c1,c2,c3,c4,c5,c6,c7,c8,c9,c10,c11,c12,c13,c14,c15,c16].drop 10).take (Tryz.prog.cellsOf 3))=some y10:=hf 10 _ rfl
 rw [show Tryz.prog.cellsOf 3=1 by kernel_rfl] at h10
 obtain ⟨n10,e10,u10⟩:=open_int1 (D:=y10.1) (Pl:=y10.2) h10
 simp only [List.drop_zero,List.drop_succ_cons,List.take_succ_cons,List.take_zero,List.cons.injEq,and_true] at e10
 have h11:DataW.trod enc Tryz.prog w0 0 (fun _=>true) true n 3 (([c0,c1,c2,c3,c4,c5,c6,c7,c8,c9,c10,c11,c12,c13,c14,c15,c16].drop 11).take (Tryz.prog.cellsOf 3))=some y11:=hf 11 _ rfl
 rw [show Tryz.prog.cellsOf 3=1 by kernel_rfl] at h11
 obtain ⟨n11,e11,u11⟩:=open_int1 (D:=y11.1) (Pl:=y11.2) h11
 simp only [List.drop_zero,List.drop_succ_cons,List.take_succ_cons,List.take_zero,List.cons.injEq,and_true] at e11
 have h12:DataW.trod enc Tryz.prog w0 0 (fun _=>true) true n 3 (([c0,c1,c2,c3,c4,c5,c6,c7,c8,c9,c10,c11,c12,c13,c14,c15,c16].drop 12).take (Tryz.prog.cellsOf 3))=some y12:=hf 12 _ rfl
 rw [show Tryz.prog.cellsOf 3=1 by kernel_rfl] at h12
 obtain ⟨n12,e12,u12⟩:=open_int1 (D:=y12.1) (Pl:=y12.2) h12
 simp only [List.drop_zero,List.drop_succ_cons,List.take_succ_cons,List.take_zero,List.cons.injEq,and_true] at e12
 have h13:DataW.trod enc Tryz.prog w0 0 (fun _=>true) true n 29 (([c0,c1,c2,c3,c4,c5,c6,c7,c8,c9,c10,c11,c12,c13,c14,c15,c16].drop 13).take (Tryz.prog.cellsOf 29))=some y13:=hf 13 _ rfl
 rw [show Tryz.prog.cellsOf 29=1 by kernel_rfl] at h13
 obtain ⟨l13,r13,z13⟩:=open_ints (d:=y13.1) (p:=y13.2) h13 (fun m hm=>hB m (by
  simp only [DataW.weights,Tryz.underlying49]
  exact DataW.weights_mem_each (j:=13) (t:=29) G G m hm))
 have h14:DataW.trod enc Tryz.prog w0 0 (fun _=>true) true n 29 (([c0,c1,c2,c3,c4,c5,c6,c7,c8,c9,c10,c11,c12,c13,c14,c15,c16].drop 14).take (Tryz.prog.cellsOf 29))=some y14:=hf 14 _ rfl
 rw [show Tryz.prog.cellsOf 29=1 by kernel_rfl] at h14
 obtain ⟨l14,r14,z14⟩:=open_ints (d:=y14.1) (p:=y14.2) h14 (fun m hm=>hB m (by
  simp only [DataW.weights,Tryz.underlying49]
  exact DataW.weights_mem_each (j:=14) (t:=29) G G m hm))
 have h15:DataW.trod enc Tryz.prog w0 0 (fun _=>true) true n 47 (([c0,c1,c2,c3,c4,c5,c6,c7,c8,c9,c10,c11,c12,c13,c14,c15,c16].drop 15).take (Tryz.prog.cellsOf 47))=some y15:=hf 15 _ rfl
 rw [show Tryz.prog.cellsOf 47=1 by kernel_rfl] at h15
 obtain ⟨l15,r15,z15,q15⟩:=open_writes (d:=y15.1) (p:=y15.2) h15 (fun m hm=>hB m (by
  simp only [DataW.weights,Tryz.underlying49]
  exact DataW.weights_mem_each (j:=15) (t:=47) G G m hm))
 have h16:DataW.trod enc Tryz.prog w0 0 (fun _=>true) true n 22 (([c0,c1,c2,c3,c4,c5,c6,c7,c8,c9,c10,c11,c12,c13,c14,c15,c16].drop 16).take (Tryz.prog.cellsOf 22))=some y16:=hf 16 _ rfl
 rw [show Tryz.prog.cellsOf 22=1 by kernel_rfl] at h16
 obtain ⟨l16,r16,z16⟩:=open_bytes (d:=y16.1) (p:=y16.2) h16 (fun m hm=>hB m (by
  simp only [DataW.weights,Tryz.underlying49]
  exact DataW.weights_mem_each (j:=16) (t:=22) G G m hm))
 subst e0 e1 e2 e3 e4 e5 e6 e7 e8 e9 e10 e11 e12
 obtain ⟨a13,s13,rfl⟩:=r13.shape
 obtain ⟨a14,s14,rfl⟩:=r14.shape
 obtain ⟨a15,s15,rfl⟩:=r15.shape
 obtain ⟨a16,s16,rfl⟩:=r16.shape
 have:=reachBytes_lt
 exact ⟨⟨n0,n1,n2,n3,n4,n5,n6,n7,n8,n9,n10,n11,n12,l13,l14,l15,l16⟩,⟨a13,s13,a14,s14,a15,s15,a16,s16,rfl,r13,r14,r15,r16⟩,⟨by show l13.length≤_; omega,by show l14.length≤_; omega,by show l15.length≤_; omega,by show l16.length≤_; omega,q15⟩,u1,u2,u3,u4,u5,u6,u7,u8,u9,u10,u11,u12⟩
theorem open_ops {fuel:Nat} {v:Value} {d:DataW H} {p:List MemPlace} (h:DataW.trod enc Tryz.prog w0 0 (fun _=>true) true fuel 43 [v]=some (d,p)) (hB:∀ n∈d.weights Tryz.prog 43,n≤reachBytes) :
  ∃ l:List Opn,RdL w0 0 v l∧l.length*200≤reachBytes∧∀ o∈l,LenO o∧NumsIn o :=
 open_list (α:=Opn) (B:=200) (fun o=>LenO o∧NumsIn o) Tryz.underlying43 (show Tryz.prog.cellsOf 49=17 by kernel_rfl) (by decide) (by kernel_rfl) (fun n x D Pl hx hw=>open_op hx hw) h hB
end
end Go.Proofs.YtpkealohodeifaaGreat.shIn
namespace Go.Proofs.YtpkealohodeifaaGreat.shardServes
open Sl shIn
open Go.ChangeShapes Go.WideShapes Go.ChangeAt Go.RowKit Go.Deep
theorem walk (w:World) (n0:Int) (n1:Int) (n2:Int) (v3:Value) (l3:List Opn) (r3:RdL w 0 v3 l3) (b3:l3.length≤17592186044416) (q3:∀ o∈l3,LenO o) (s3:∀ o∈l3,NumsIn o) (o4:Opn) (e4:List Value) (r4:Rep.rd w 0 o4 e4) (q4:LenO o4) (s4:NumsIn o4) :
  Calls Tryz.prog 9 #[.int .i64 n0,.int .i64 n1,.int .i64 n2,v3,.agg e4.toArray] w fun e w'=>e=.returned (.bool true)∧Below w.heap.size w w':=by
 have h:=shardServes_spec w n0 n1 n2 v3 l3 o4 e4 r3 b3 q3 s3 r4 q4 s4 w 0 (by rw [hzero_add]; exact St.start w)
 refine h.mono ?_
 rintro e w' ⟨v,h',rfl,⟨rfl,rfl⟩,hst⟩
 exact ⟨rfl,hst.below⟩
set_option maxRecDepth 100000 in
theorem lifted (os:Os) (started:os.Started) (H:Type) (enc:TypeId × Value→H) :
  ReturnsInHanded {} Tryz.checked os 9 .any (Rows.shardServesSpec.pre6 enc Tryz.prog Tryz.f9 Rows.shardServesRow.domain false) (Rows.shardServesSpec.post enc Tryz.prog Tryz.f9 false true false false):=by
 refine returnsInHanded_of_change_sized (C:=Tryz.checked) own started (by kernel_rfl) Tryz.func9
  (ChangeSpec.witness6 (enc:=enc) (C:=Tryz.checked) false ⟨#[],#[.int .i64 0,.int .i64 0,.int .i64 0,.slice none 0 0,.agg #[.int .i64 0,.int .i64 0,.int .i64 0,.int .i64 0,.int .i64 0,.int .i64 0,.int .i64 0,.int .i64 0,.int .i64 0,.int .i64 0,.int .i64 0,.int .i64 0,.int .i64 0,.slice none 0 0,.slice none 0 0,.slice none 0 0,.slice none 0 0]],[]⟩ 8 (by kernel_rfl) (by kernel_rfl) (by kernel_rfl) (by kernel_rfl)) ?_
 intro W base args ds gs before hval0 hW hcnd hsz0 _
 have hsz:(DataW.weightsEach Tryz.prog (Tryz.f9.params.toList++Rows.shardServesSpec.plain.varTypes Tryz.prog) (ds++gs)).all (·≤reachBytes)=true:=hsz0
 clear hsz0
 have hval:∀ (j:Nat) t v,Tryz.f9.params[j]?=some t→args[j]?=some v→Value.okWide Tryz.prog W .any base t v:=hval0
 have hW':=hW
 obtain ⟨p,q,hA0,hV,rfl,hfz,hnd⟩:=hW
 have hA:DataW.TrodAll enc Tryz.prog W 0 (fun _=>true) true Tryz.f9.params.toList args.toList ds p:=hA0
 rw [Tryz.params9] at hA hval
 obtain ⟨v0,vs0,d0,ds0,p0,q0,hargs,rfl,rfl,h0,r0⟩:=trodAll_cons hA
 obtain ⟨v1,vs1,d1,ds1,p1,q1,rfl,rfl,rfl,h1,r1⟩:=trodAll_cons r0
 obtain ⟨v2,vs2,d2,ds2,p2,q2,rfl,rfl,rfl,h2,r2⟩:=trodAll_cons r1
 obtain ⟨v3,vs3,d3,ds3,p3,q3,rfl,rfl,rfl,h3,r3⟩:=trodAll_cons r2
 obtain ⟨v4,vs4,d4,ds4,p4,q4,rfl,rfl,rfl,h4,r4⟩:=trodAll_cons r3
 obtain ⟨rfl,rfl,rfl⟩:=trodAll_nil r4
 obtain rfl:args=#[v0,v1,v2,v3,v4]:=by cases args; simp_all
 obtain ⟨rfl,rfl⟩:=trodVars_none hV
 have k0:=h0
 have lt0:∀ x∈p0,x.block<W.heap.size:=by obtain ⟨m,hm⟩:=k0; exact DataW.trod_lt m _ _ _ hm
 obtain ⟨n0,rfl⟩:=okWide_int Tryz.underlying3 (hval 0 3 v0 rfl rfl)
 have k1:=h1
 have lt1:∀ x∈p1,x.block<W.heap.size:=by obtain ⟨m,hm⟩:=k1; exact DataW.trod_lt m _ _ _ hm
 obtain ⟨n1,rfl⟩:=okWide_int Tryz.underlying3 (hval 1 3 v1 rfl rfl)
 have k2:=h2
 have lt2:∀ x∈p2,x.block<W.heap.size:=by obtain ⟨m,hm⟩:=k2; exact DataW.trod_lt m _ _ _ hm
 obtain ⟨n2,rfl⟩:=okWide_int Tryz.underlying3 (hval 2 3 v2 rfl rfl)
 have k3:=h3
 have lt3:∀ x∈p3,x.block<W.heap.size:=by obtain ⟨m,hm⟩:=k3; exact DataW.trod_lt m _ _ _ hm
 obtain ⟨a3,len3,cap3,rfl⟩:=okWide_slice Tryz.underlying43 (hval 3 43 v3 rfl rfl)
 obtain ⟨l3,w3,z3,y3⟩:∃ l,RdL W 0 (.slice a3 len3 cap3) l∧l.length*200≤reachBytes∧∀ o∈l,LenO o∧NumsIn o:=by
  obtain ⟨fuel,hf⟩:=h3
  exact open_ops hf (fun m hm=>by simpa using List.all_eq_true.1 hsz m (DataW.weights_mem_each (j:=3) (t:=43) G G m hm))
 have k4:=h4
 have lt4:∀ x∈p4,x.block<W.heap.size:=by obtain ⟨m,hm⟩:=k4; exact DataW.trod_lt m _ _ _ hm
 obtain ⟨cs4,rfl,_⟩:=okWide_struct Tryz.underlying49 (hval 4 49 v4 rfl rfl)
 obtain ⟨o4,w4,z4,y4⟩:∃ q,Rep.rd W 0 q cs4.toList∧LenO q∧NumsIn q:=by
  obtain ⟨fuel,hf⟩:=h4
  exact open_op hf (fun m hm=>by simpa using List.all_eq_true.1 hsz m (DataW.weights_mem_each (j:=4) (t:=49) G G m hm))
 clear hA0 hval0 hsz
 refine (walk W n0 n1 n2 _ l3 w3 (by have:=reachBytes_lt; omega) (fun o ho=>(y3 o ho).1) (fun o ho=>(y3 o ho).2) o4 cs4.toList w4 z4 y4).mono fun e W' ⟨he,bel⟩=>?_
 subst he
 exact ⟨_,rfl,_,_,_,[],_,[],hW',trodAll_mk1 (shut_bool Tryz.underlying4 _),(trodAll_cons_mk (Below.trod laidOut (by kernel_rfl) (of_decide_eq_true (by kernel_rfl)) k0 bel lt0) (trodAll_cons_mk (Below.trod laidOut (by kernel_rfl) (of_decide_eq_true (by kernel_rfl)) k1 bel lt1) (trodAll_cons_mk (Below.trod laidOut (by kernel_rfl) (of_decide_eq_true (by kernel_rfl)) k2 bel lt2) (trodAll_cons_mk (Below.trod laidOut (by kernel_rfl) (of_decide_eq_true (by kernel_rfl)) k3 bel lt3) (trodAll_cons_mk (Below.trod laidOut (by kernel_rfl) (of_decide_eq_true (by kernel_rfl)) k4 bel lt4) trodAll_mk0))))),rfl,bel.frame _,fun h=>by cases h⟩
theorem over :Rows.shardServesRow.holds Tryz.pinned (OpenSpec.ofChange Rows.shardServesSpec) :=
 OpenClaim.holds_of_wide 9 Tryz.f9 G G G G G G G ⟨rfl,rfl,rfl,rfl,rfl⟩ rfl G G G G (by kernel_rfl) Tryz.func9 (by kernel_rfl)
  (of_decide_eq_true (by kernel_rfl)) (by unfold Func.isWrapper; first|(rw [if_pos (by decide +kernel)]; kernel_rfl)|(rw [if_neg (by decide +kernel)]; exact ⟨rfl,rfl⟩))
  (fun os started H enc _=>lifted os started H enc)
theorem proved :Rows.ShardServesSaid:=over
end Go.Proofs.YtpkealohodeifaaGreat.shardServes
