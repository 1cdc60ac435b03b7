/-
  clientOnce.proved: for all that is handed in the law function returns true, and what it is given reads as it did. No condition. (Also: ClIm, CClOnce.)
-/
import Derived.Test.YtfahijncpmlhjaaGreatOn2
import Derived.Test.YtfahijncpmlhjaaGreatOn6
set_option linter.unusedVariables false
set_option linter.unusedSimpArgs false
namespace Go.Proofs.YtfahijncpmlhjaaGreat.clIn
open Sl
open Go.ChangeShapes Go.WideShapes Go.ChangeAt Go.RowKit Go.Deep Go.Joins
set_option maxRecDepth 100000
set_option maxHeartbeats 4000000
section
variable {H:Type} {enc:TypeId × Value→H} {w0:World}
theorem open_cap {fuel:Nat} {ad:Option Addr} {n c:Nat} {t e:TypeId} {d:DataW H} {p:List MemPlace} (ht:Tryz.prog.underlying t=some (.slice e)) (h:DataW.trod enc Tryz.prog w0 0 (fun _=>true) true fuel t [.slice ad n c]=some (d,p)):n≤c:=by
 rcases open_slice ht h with ⟨hc,_⟩|⟨a,len,cap,m,n',D,Pl,hc,_,hl,_⟩
 ·simp only [List.cons.injEq,Value.slice.injEq,and_true] at hc
  omega
 ·simp only [List.cons.injEq,Value.slice.injEq,and_true] at hc
  omega
theorem open_ent {fuel:Nat} {x:List Value} {D:DataW H} {Pl:List MemPlace} (h:DataW.trod enc Tryz.prog w0 0 (fun _=>true) true fuel 203 x=some (D,Pl)) (hB:∀ m∈D.weights Tryz.prog 203,m≤reachBytes) :
  ∃ q:Ent,Rep.rd w0 0 q x:=by
 obtain ⟨xs,n,_,hd,hl,hlen,hf⟩:=DataW.trod_struct Tryz.underlying203 h
 have hlen':xs.length=3:=hlen
 clear hlen
 obtain ⟨y0,y1,y2,rfl⟩:∃ y0 y1 y2,xs=[y0,y1,y2]:=by
  match xs,hlen' with
  | [y0,y1,y2],_=>exact ⟨y0,y1,y2,rfl⟩
 simp only [Prod.mk.injEq,List.map_cons,List.map_nil] at hd
 obtain ⟨rfl,_⟩:=hd
 rw [show Tryz.prog.cellsOf 203=3 by kernel_rfl] at hl
 obtain ⟨c0,c1,c2,rfl⟩:∃ c0 c1 c2,x=[c0,c1,c2]:=by
  match x,hl with
  | [c0,c1,c2],_=>exact ⟨c0,c1,c2,rfl⟩
 have h0:DataW.trod enc Tryz.prog w0 0 (fun _=>true) true n 3 (([c0,c1,c2].drop 0).take (Tryz.prog.cellsOf 3))=some y0:=hf 0 _ rfl
 rw [show Tryz.prog.cellsOf 3=1 by kernel_rfl] at h0
 obtain ⟨n0,e0,u0⟩:=open_int1 (D:=y0.1) (Pl:=y0.2) h0
 simp only [List.drop_zero,List.drop_succ_cons,List.take_succ_cons,List.take_zero,List.cons.injEq,and_true] at e0
 have h1:DataW.trod enc Tryz.prog w0 0 (fun _=>true) true n 3 (([c0,c1,c2].drop 1).take (Tryz.prog.cellsOf 3))=some y1:=hf 1 _ rfl
 rw [show Tryz.prog.cellsOf 3=1 by kernel_rfl] at h1
 obtain ⟨n1,e1,u1⟩:=open_int1 (D:=y1.1) (Pl:=y1.2) h1
 simp only [List.drop_zero,List.drop_succ_cons,List.take_succ_cons,List.take_zero,List.cons.injEq,and_true] at e1
 have h2:DataW.trod enc Tryz.prog w0 0 (fun _=>true) true n 35 (([c0,c1,c2].drop 2).take (Tryz.prog.cellsOf 35))=some y2:=hf 2 _ rfl
 rw [show Tryz.prog.cellsOf 35=1 by kernel_rfl] at h2
 obtain ⟨l2,r2,z2⟩:=open_bytes (d:=y2.1) (p:=y2.2) h2 (fun m hm=>hB m (by
  simp only [DataW.weights,Tryz.underlying203]
  exact DataW.weights_mem_each (j:=2) (t:=35) M M m hm))
 subst e0 e1
 obtain ⟨a2,s2,rfl⟩:=r2.shape
 have hrb:=reachBytes_lt
 exact ⟨⟨n0,n1,l2⟩,a2,s2,rfl,r2⟩
theorem open_ents {fuel:Nat} {v:Value} {d:DataW H} {p:List MemPlace} (h:DataW.trod enc Tryz.prog w0 0 (fun _=>true) true fuel 53 [v]=some (d,p)) (hB:∀ n∈d.weights Tryz.prog 53,n≤reachBytes) :
  ∃ l:List Ent,RdL w0 0 v l∧l.length*40≤reachBytes∧∀ q∈l,True :=
 open_list (α:=Ent) (B:=40) (fun q=>True) Tryz.underlying53 (show Tryz.prog.cellsOf 203=_ by kernel_rfl) (by decide) (by kernel_rfl) (fun n x D Pl hx hw=>(open_ent hx hw).imp fun q h=>⟨h,trivial⟩) h hB
theorem open_rng {fuel:Nat} {x:List Value} {D:DataW H} {Pl:List MemPlace} (h:DataW.trod enc Tryz.prog w0 0 (fun _=>true) true fuel 80 x=some (D,Pl)) (hB:∀ m∈D.weights Tryz.prog 80,m≤reachBytes) :
  ∃ q:Rng,Rep.rd w0 0 q x∧Sl.I64 q.epoch:=by
 obtain ⟨xs,n,_,hd,hl,hlen,hf⟩:=DataW.trod_struct Tryz.underlying80 h
 have hlen':xs.length=4:=hlen
 clear hlen
 obtain ⟨y0,y1,y2,y3,rfl⟩:∃ y0 y1 y2 y3,xs=[y0,y1,y2,y3]:=by
  match xs,hlen' with
  | [y0,y1,y2,y3],_=>exact ⟨y0,y1,y2,y3,rfl⟩
 simp only [Prod.mk.injEq,List.map_cons,List.map_nil] at hd
 obtain ⟨rfl,_⟩:=hd
 rw [show Tryz.prog.cellsOf 80=4 by kernel_rfl] at hl
 obtain ⟨c0,c1,c2,c3,rfl⟩:∃ c0 c1 c2 c3,x=[c0,c1,c2,c3]:=by
  match x,hl with
  | [c0,c1,c2,c3],_=>exact ⟨c0,c1,c2,c3,rfl⟩
 have h0:DataW.trod enc Tryz.prog w0 0 (fun _=>true) true n 3 (([c0,c1,c2,c3].drop 0).take (Tryz.prog.cellsOf 3))=some y0:=hf 0 _ rfl
 rw [show Tryz.prog.cellsOf 3=1 by kernel_rfl] at h0
 obtain ⟨n0,e0,u0⟩:=open_int1 (D:=y0.1) (Pl:=y0.2) h0
 simp only [List.drop_zero,List.drop_succ_cons,List.take_succ_cons,List.take_zero,List.cons.injEq,and_true] at e0
 have h1:DataW.trod enc Tryz.prog w0 0 (fun _=>true) true n 3 (([c0,c1,c2,c3].drop 1).take (Tryz.prog.cellsOf 3))=some y1:=hf 1 _ rfl
 rw [show Tryz.prog.cellsOf 3=1 by kernel_rfl] at h1
 obtain ⟨n1,e1,u1⟩:=open_int1 (D:=y1.1) (Pl:=y1.2) h1
 simp only [List.drop_zero,List.drop_succ_cons,List.take_succ_cons,List.take_zero,List.cons.injEq,and_true] at e1
 have h2:DataW.trod enc Tryz.prog w0 0 (fun _=>true) true n 3 (([c0,c1,c2,c3].drop 2).take (Tryz.prog.cellsOf 3))=some y2:=hf 2 _ rfl
 rw [show Tryz.prog.cellsOf 3=1 by kernel_rfl] at h2
 obtain ⟨n2,e2,u2⟩:=open_int1 (D:=y2.1) (Pl:=y2.2) h2
 simp only [List.drop_zero,List.drop_succ_cons,List.take_succ_cons,List.take_zero,List.cons.injEq,and_true] at e2
 have h3:DataW.trod enc Tryz.prog w0 0 (fun _=>true) true n 3 (([c0,c1,c2,c3].drop 3).take (Tryz.prog.cellsOf 3))=some y3:=hf 3 _ rfl
 rw [show Tryz.prog.cellsOf 3=1 by kernel_rfl] at h3
 obtain ⟨n3,e3,u3⟩:=open_int1 (D:=y3.1) (Pl:=y3.2) h3
 simp only [List.drop_zero,List.drop_succ_cons,List.take_succ_cons,List.take_zero,List.cons.injEq,and_true] at e3
 subst e0 e1 e2 e3
 have hrb:=reachBytes_lt
 exact ⟨⟨n0,n1,n2,n3⟩,rfl,u3⟩
theorem open_rngs {fuel:Nat} {v:Value} {d:DataW H} {p:List MemPlace} (h:DataW.trod enc Tryz.prog w0 0 (fun _=>true) true fuel 29 [v]=some (d,p)) (hB:∀ n∈d.weights Tryz.prog 29,n≤reachBytes) :
  ∃ l:List Rng,RdL w0 0 v l∧l.length*32≤reachBytes∧∀ q∈l,Sl.I64 q.epoch :=
 open_list (α:=Rng) (B:=32) (fun q=>Sl.I64 q.epoch) Tryz.underlying29 (show Tryz.prog.cellsOf 80=_ by kernel_rfl) (by decide) (by kernel_rfl) (fun n x D Pl hx hw=>open_rng hx hw) h hB
theorem open_spn {fuel:Nat} {x:List Value} {D:DataW H} {Pl:List MemPlace} (h:DataW.trod enc Tryz.prog w0 0 (fun _=>true) true fuel 78 x=some (D,Pl)) (hB:∀ m∈D.weights Tryz.prog 78,m≤reachBytes) :
  ∃ q:Spn,Rep.rd w0 0 q x∧Sl.I64 q.lo∧Sl.I64 q.hi:=by
 obtain ⟨xs,n,_,hd,hl,hlen,hf⟩:=DataW.trod_struct Tryz.underlying78 h
 have hlen':xs.length=2:=hlen
 clear hlen
 obtain ⟨y0,y1,rfl⟩:∃ y0 y1,xs=[y0,y1]:=by
  match xs,hlen' with
  | [y0,y1],_=>exact ⟨y0,y1,rfl⟩
 simp only [Prod.mk.injEq,List.map_cons,List.map_nil] at hd
 obtain ⟨rfl,_⟩:=hd
 rw [show Tryz.prog.cellsOf 78=2 by kernel_rfl] at hl
 obtain ⟨c0,c1,rfl⟩:∃ c0 c1,x=[c0,c1]:=by
  match x,hl with
  | [c0,c1],_=>exact ⟨c0,c1,rfl⟩
 have h0:DataW.trod enc Tryz.prog w0 0 (fun _=>true) true n 3 (([c0,c1].drop 0).take (Tryz.prog.cellsOf 3))=some y0:=hf 0 _ rfl
 rw [show Tryz.prog.cellsOf 3=1 by kernel_rfl] at h0
 obtain ⟨n0,e0,u0⟩:=open_int1 (D:=y0.1) (Pl:=y0.2) h0
 simp only [List.drop_zero,List.drop_succ_cons,List.take_succ_cons,List.take_zero,List.cons.injEq,and_true] at e0
 have h1:DataW.trod enc Tryz.prog w0 0 (fun _=>true) true n 3 (([c0,c1].drop 1).take (Tryz.prog.cellsOf 3))=some y1:=hf 1 _ rfl
 rw [show Tryz.prog.cellsOf 3=1 by kernel_rfl] at h1
 obtain ⟨n1,e1,u1⟩:=open_int1 (D:=y1.1) (Pl:=y1.2) h1
 simp only [List.drop_zero,List.drop_succ_cons,List.take_succ_cons,List.take_zero,List.cons.injEq,and_true] at e1
 subst e0 e1
 have hrb:=reachBytes_lt
 exact ⟨⟨n0,n1⟩,rfl,u0,u1⟩
theorem open_spns {fuel:Nat} {v:Value} {d:DataW H} {p:List MemPlace} (h:DataW.trod enc Tryz.prog w0 0 (fun _=>true) true fuel 30 [v]=some (d,p)) (hB:∀ n∈d.weights Tryz.prog 30,n≤reachBytes) :
  ∃ l:List Spn,RdL w0 0 v l∧l.length*16≤reachBytes∧∀ q∈l,Sl.I64 q.lo∧Sl.I64 q.hi :=
 open_list (α:=Spn) (B:=16) (fun q=>Sl.I64 q.lo∧Sl.I64 q.hi) Tryz.underlying30 (show Tryz.prog.cellsOf 78=_ by kernel_rfl) (by decide) (by kernel_rfl) (fun n x D Pl hx hw=>open_spn hx hw) h hB
theorem open_li {fuel:Nat} {x:List Value} {D:DataW H} {Pl:List MemPlace} (h:DataW.trod enc Tryz.prog w0 0 (fun _=>true) true fuel 61 x=some (D,Pl)) (hB:∀ m∈D.weights Tryz.prog 61,m≤reachBytes):∃ q:List Int,Rep.rd w0 0 q x:=by
 obtain ⟨v,rfl⟩:∃ v,x=[v]:=by
  rcases open_slice Tryz.underlying61 h with ⟨hc,_⟩|⟨a,len,cap,m,n',D,Pl,hc,_⟩
  ·exact ⟨_,hc⟩
  ·exact ⟨_,hc⟩
 obtain ⟨l,r,_⟩:=open_ints h hB
 obtain ⟨a,s,rfl⟩:=r.shape
 exact ⟨l,a,s,rfl,r⟩
theorem open_lis0 {fuel:Nat} {v:Value} {d:DataW H} {p:List MemPlace} (h:DataW.trod enc Tryz.prog w0 0 (fun _=>true) true fuel 28 [v]=some (d,p)) (hB:∀ n∈d.weights Tryz.prog 28,n≤reachBytes) :
  ∃ l:List (List Int),RdL w0 0 v l∧l.length*24≤reachBytes∧∀ q∈l,True :=
 open_list (α:=(List Int)) (B:=24) (fun q=>True) Tryz.underlying28 (show Tryz.prog.cellsOf 61=_ by kernel_rfl) (by decide) (by kernel_rfl) (fun n x D Pl hx hw=>(open_li hx hw).imp fun q h=>⟨h,trivial⟩) h hB
theorem open_lis {fuel:Nat} {v:Value} {d:DataW H} {p:List MemPlace} (h:DataW.trod enc Tryz.prog w0 0 (fun _=>true) true fuel 28 [v]=some (d,p)) (hB:∀ n∈d.weights Tryz.prog 28,n≤reachBytes):∃ l:List (List Int),RdL w0 0 v l∧l.length*24≤reachBytes:=by
 obtain ⟨l,h1,h2,_⟩:=open_lis0 h hB
 exact ⟨l,h1,h2⟩
theorem open_call {fuel:Nat} {x:List Value} {D:DataW H} {Pl:List MemPlace} (h:DataW.trod enc Tryz.prog w0 0 (fun _=>true) true fuel 41 x=some (D,Pl)) (hB:∀ m∈D.weights Tryz.prog 41,m≤reachBytes) :
  ∃ (q:Cal) (d:List Bt) (a:Option Addr) (c:Nat),x=cellsX q (.slice a d.length c)∧RdL w0 0 (.slice a d.length c) d∧CalSz q:=by
 obtain ⟨xs,n,_,hd,hl,hlen,hf⟩:=DataW.trod_struct Tryz.underlying41 h
 have hlen':xs.length=13:=hlen
 clear hlen
 obtain ⟨y0,y1,y2,y3,y4,y5,y6,y7,y8,y9,y10,y11,y12,rfl⟩:∃ y0 y1 y2 y3 y4 y5 y6 y7 y8 y9 y10 y11 y12,xs=[y0,y1,y2,y3,y4,y5,y6,y7,y8,y9,y10,y11,y12]:=by
  match xs,hlen' with
  | [y0,y1,y2,y3,y4,y5,y6,y7,y8,y9,y10,y11,y12],_=>exact ⟨y0,y1,y2,y3,y4,y5,y6,y7,y8,y9,y10,y11,y12,rfl⟩
 simp only [Prod.mk.injEq,List.map_cons,List.map_nil] at hd
 obtain ⟨rfl,_⟩:=hd
 rw [show Tryz.prog.cellsOf 41=13 by kernel_rfl] at hl
 obtain ⟨c0,c1,c2,c3,c4,c5,c6,c7,c8,c9,c10,c11,c12,rfl⟩:∃ c0 c1 c2 c3 c4 c5 c6 c7 c8 c9 c10 c11 c12,x=[c0,c1,c2,c3,c4,c5,c6,c7,c8,c9,c10,c11,c12]:=by
  match x,hl with
  | [c0,c1,c2,c3,c4,c5,c6,c7,c8,c9,c10,c11,c12],_=>exact ⟨c0,c1,c2,c3,c4,c5,c6,c7,c8,c9,c10,c11,c12,rfl⟩
 have h0:DataW.trod enc Tryz.prog w0 0 (fun _=>true) true n 3 (([c0,c1,c2,c3,c4,c5,c6,c7,c8,c9,c10,c11,c12].drop 0).take (Tryz.prog.cellsOf 3))=some y0:=hf 0 _ rfl
 rw [show Tryz.prog.cellsOf 3=1 by kernel_rfl] at h0
 obtain ⟨n0,e0,u0⟩:=open_int1 (D:=y0.1) (Pl:=y0.2) h0
 simp only [List.drop_zero,List.drop_succ_cons,List.take_succ_cons,List.take_zero,List.cons.injEq,and_true] at e0
 have h1:DataW.trod enc Tryz.prog w0 0 (fun _=>true) true n 3 (([c0,c1,c2,c3,c4,c5,c6,c7,c8,c9,c10,c11,c12].drop 1).take (Tryz.prog.cellsOf 3))=some y1:=hf 1 _ rfl
 rw [show Tryz.prog.cellsOf 3=1 by kernel_rfl] at h1
 obtain ⟨n1,e1,u1⟩:=open_int1 (D:=y1.1) (Pl:=y1.2) h1
 simp only [List.drop_zero,List.drop_succ_cons,List.take_succ_cons,List.take_zero,List.cons.injEq,and_true] at e1
 have h2:DataW.trod enc Tryz.prog w0 0 (fun _=>true) true n 3 (([c0,c1,c2,c3,c4,c5,c6,c7,c8,c9,c10,c11,c12].drop 2).take (Tryz.prog.cellsOf 3))=some y2:=hf 2 _ rfl
 rw [show Tryz.prog.cellsOf 3=1 by kernel_rfl] at h2
 obtain ⟨n2,e2,u2⟩:=open_int1 (D:=y2.1) (Pl:=y2.2) h2
 simp only [List.drop_zero,List.drop_succ_cons,List.take_succ_cons,List.take_zero,List.cons.injEq,and_true] at e2
 have h3:DataW.trod enc Tryz.prog w0 0 (fun _=>true) true n 3 (([c0,c1,c2,c3,c4,c5,c6,c7,c8,c9,c10,c11,c12].drop 3).take (Tryz.prog.cellsOf 3))=some y3:=hf 3 _ rfl
 rw [show Tryz.prog.cellsOf 3=1 by kernel_rfl] at h3
 obtain ⟨n3,e3,u3⟩:=open_int1 (D:=y3.1) (Pl:=y3.2) h3
 simp only [List.drop_zero,List.drop_succ_cons,List.take_succ_cons,List.take_zero,List.cons.injEq,and_true] at e3
 have h4:DataW.trod enc Tryz.prog w0 0 (fun _=>true) true n 3 (([c0,c1,c2,c3,c4,c5,c6,c7,c8,c9,c10,c11,c12].drop 4).take (Tryz.prog.cellsOf 3))=some y4:=hf 4 _ rfl
 rw [show Tryz.prog.cellsOf 3=1 by kernel_rfl] at h4
 obtain ⟨n4,e4,u4⟩:=open_int1 (D:=y4.1) (Pl:=y4.2) h4
 simp only [List.drop_zero,List.drop_succ_cons,List.take_succ_cons,List.take_zero,List.cons.injEq,and_true] at e4
 have h5:DataW.trod enc Tryz.prog w0 0 (fun _=>true) true n 3 (([c0,c1,c2,c3,c4,c5,c6,c7,c8,c9,c10,c11,c12].drop 5).take (Tryz.prog.cellsOf 3))=some y5:=hf 5 _ rfl
 rw [show Tryz.prog.cellsOf 3=1 by kernel_rfl] at h5
 obtain ⟨n5,e5,u5⟩:=open_int1 (D:=y5.1) (Pl:=y5.2) h5
 simp only [List.drop_zero,List.drop_succ_cons,List.take_succ_cons,List.take_zero,List.cons.injEq,and_true] at e5
 have h6:DataW.trod enc Tryz.prog w0 0 (fun _=>true) true n 3 (([c0,c1,c2,c3,c4,c5,c6,c7,c8,c9,c10,c11,c12].drop 6).take (Tryz.prog.cellsOf 3))=some y6:=hf 6 _ rfl
 rw [show Tryz.prog.cellsOf 3=1 by kernel_rfl] at h6
 obtain ⟨n6,e6,u6⟩:=open_int1 (D:=y6.1) (Pl:=y6.2) h6
 simp only [List.drop_zero,List.drop_succ_cons,List.take_succ_cons,List.take_zero,List.cons.injEq,and_true] at e6
 have h7:DataW.trod enc Tryz.prog w0 0 (fun _=>true) true n 3 (([c0,c1,c2,c3,c4,c5,c6,c7,c8,c9,c10,c11,c12].drop 7).take (Tryz.prog.cellsOf 3))=some y7:=hf 7 _ rfl
 rw [show Tryz.prog.cellsOf 3=1 by kernel_rfl] at h7
 obtain ⟨n7,e7,u7⟩:=open_int1 (D:=y7.1) (Pl:=y7.2) h7
 simp only [List.drop_zero,List.drop_succ_cons,List.take_succ_cons,List.take_zero,List.cons.injEq,and_true] at e7
 have h8:DataW.trod enc Tryz.prog w0 0 (fun _=>true) true n 3 (([c0,c1,c2,c3,c4,c5,c6,c7,c8,c9,c10,c11,c12].drop 8).take (Tryz.prog.cellsOf 3))=some y8:=hf 8 _ rfl
 rw [show Tryz.prog.cellsOf 3=1 by kernel_rfl] at h8
 obtain ⟨n8,e8,u8⟩:=open_int1 (D:=y8.1) (Pl:=y8.2) h8
 simp only [List.drop_zero,List.drop_succ_cons,List.take_succ_cons,List.take_zero,List.cons.injEq,and_true] at e8
 have h9:DataW.trod enc Tryz.prog w0 0 (fun _=>true) true n 3 (([c0,c1,c2,c3,c4,c5,c6,c7,c8,c9,c10,c11,c12].drop 9).take (Tryz.prog.cellsOf 3))=some y9:=hf 9 _ rfl
 rw [show Tryz.prog.cellsOf 3=1 by kernel_rfl] at h9
 obtain ⟨n9,e9,u9⟩:=open_int1 (D:=y9.1) (Pl:=y9.2) h9
 simp only [List.drop_zero,List.drop_succ_cons,List.take_succ_cons,List.take_zero,List.cons.injEq,and_true] at e9
 have h10:DataW.trod enc Tryz.prog w0 0 (fun _=>true) true n 3 (([c0,c1,c2,c3,c4,c5,c6,c7,c8,c9,c10,c11,c12].drop 10).take (Tryz.prog.cellsOf 3))=some y10:=hf 10 _ rfl
 rw [show Tryz.prog.cellsOf 3=1 by kernel_rfl] at h10
 obtain ⟨n10,e10,u10⟩:=open_int1 (D:=y10.1) (Pl:=y10.2) h10
 simp only [List.drop_zero,List.drop_succ_cons,List.take_succ_cons,List.take_zero,List.cons.injEq,and_true] at e10
 have h11:DataW.trod enc Tryz.prog w0 0 (fun _=>true) true n 3 (([c0,c1,c2,c3,c4,c5,c6,c7,c8,c9,c10,c11,c12].drop 11).take (Tryz.prog.cellsOf 3))=some y11:=hf 11 _ rfl
 rw [show Tryz.prog.cellsOf 3=1 by kernel_rfl] at h11
 obtain ⟨n11,e11,u11⟩:=open_int1 (D:=y11.1) (Pl:=y11.2) h11
 simp only [List.drop_zero,List.drop_succ_cons,List.take_succ_cons,List.take_zero,List.cons.injEq,and_true] at e11
 have h12:DataW.trod enc Tryz.prog w0 0 (fun _=>true) true n 35 (([c0,c1,c2,c3,c4,c5,c6,c7,c8,c9,c10,c11,c12].drop 12).take (Tryz.prog.cellsOf 35))=some y12:=hf 12 _ rfl
 rw [show Tryz.prog.cellsOf 35=1 by kernel_rfl] at h12
 obtain ⟨l12,r12,z12⟩:=open_bytes (d:=y12.1) (p:=y12.2) h12 (fun m hm=>hB m (by
  simp only [DataW.weights,Tryz.underlying41]
  exact DataW.weights_mem_each (j:=12) (t:=35) M M m hm))
 subst e0 e1 e2 e3 e4 e5 e6 e7 e8 e9 e10 e11
 obtain ⟨a12,s12,rfl⟩:=r12.shape
 have hrb:=reachBytes_lt
 exact ⟨⟨n0,n1,n2,n3,n4,n5,n6,n7,n8,n9,n10,n11⟩,l12,a12,s12,rfl,r12,⟨u1,u3,u5,u6,u7,u8,u10,u11⟩⟩
theorem open_pkt {fuel:Nat} {x:List Value} {D:DataW H} {Pl:List MemPlace} (h:DataW.trod enc Tryz.prog w0 0 (fun _=>true) true fuel 52 x=some (D,Pl)) (hB:∀ m∈D.weights Tryz.prog 52,m≤reachBytes) :
  ∃ (q:Sl.Pkt) (a:Option Addr) (c:Nat),x=[.int .i64 q.src,.int .i64 q.dst,.slice a q.bytes.length c]∧RdL w0 0 (.slice a q.bytes.length c) q.bytes∧q.bytes.length≤c:=by
 obtain ⟨xs,n,_,hd,hl,hlen,hf⟩:=DataW.trod_struct Tryz.underlying52 h
 have hlen':xs.length=3:=hlen
 clear hlen
 obtain ⟨y0,y1,y2,rfl⟩:∃ y0 y1 y2,xs=[y0,y1,y2]:=by
  match xs,hlen' with
  | [y0,y1,y2],_=>exact ⟨y0,y1,y2,rfl⟩
 simp only [Prod.mk.injEq,List.map_cons,List.map_nil] at hd
 obtain ⟨rfl,_⟩:=hd
 rw [show Tryz.prog.cellsOf 52=3 by kernel_rfl] at hl
 obtain ⟨c0,c1,c2,rfl⟩:∃ c0 c1 c2,x=[c0,c1,c2]:=by
  match x,hl with
  | [c0,c1,c2],_=>exact ⟨c0,c1,c2,rfl⟩
 have h0:DataW.trod enc Tryz.prog w0 0 (fun _=>true) true n 3 (([c0,c1,c2].drop 0).take (Tryz.prog.cellsOf 3))=some y0:=hf 0 _ rfl
 rw [show Tryz.prog.cellsOf 3=1 by kernel_rfl] at h0
 obtain ⟨n0,e0,u0⟩:=open_int1 (D:=y0.1) (Pl:=y0.2) h0
 simp only [List.drop_zero,List.drop_succ_cons,List.take_succ_cons,List.take_zero,List.cons.injEq,and_true] at e0
 have h1:DataW.trod enc Tryz.prog w0 0 (fun _=>true) true n 3 (([c0,c1,c2].drop 1).take (Tryz.prog.cellsOf 3))=some y1:=hf 1 _ rfl
 rw [show Tryz.prog.cellsOf 3=1 by kernel_rfl] at h1
 obtain ⟨n1,e1,u1⟩:=open_int1 (D:=y1.1) (Pl:=y1.2) h1
 simp only [List.drop_zero,List.drop_succ_cons,List.take_succ_cons,List.take_zero,List.cons.injEq,and_true] at e1
 have h2:DataW.trod enc Tryz.prog w0 0 (fun _=>true) true n 35 (([c0,c1,c2].drop 2).take (Tryz.prog.cellsOf 35))=some y2:=hf 2 _ rfl
 rw [show Tryz.prog.cellsOf 35=1 by kernel_rfl] at h2
 obtain ⟨l2,r2,z2⟩:=open_bytes (d:=y2.1) (p:=y2.2) h2 (fun m hm=>hB m (by
  simp only [DataW.weights,Tryz.underlying52]
  exact DataW.weights_mem_each (j:=2) (t:=35) M M m hm))
 subst e0 e1
 obtain ⟨a2,s2,rfl⟩:=r2.shape
 have hrb:=reachBytes_lt
 exact ⟨⟨n0,n1,l2⟩,a2,s2,rfl,r2,open_cap (d:=y2.1) (p:=y2.2) Tryz.underlying35 h2⟩
theorem open_msg {fuel:Nat} {x:List Value} {D:DataW H} {Pl:List MemPlace} (h:DataW.trod enc Tryz.prog w0 0 (fun _=>true) true fuel 55 x=some (D,Pl)) (hB:∀ m∈D.weights Tryz.prog 55,m≤reachBytes) :
  ∃ (q:Msg) (a:Option Addr) (c:Nat) (a2:Option Addr) (c2:Nat),x=cellsM q (.slice a q.entries.length c) (.slice a2 q.data.length c2)∧RdL w0 0 (.slice a q.entries.length c) q.entries∧RdL w0 0 (.slice a2 q.data.length c2) q.data∧q.entries.length≤10000000000000:=by
 obtain ⟨xs,n,_,hd,hl,hlen,hf⟩:=DataW.trod_struct Tryz.underlying55 h
 have hlen':xs.length=17:=hlen
 clear hlen
 obtain ⟨y0,y1,y2,y3,y4,y5,y6,y7,y8,y9,y10,y11,y12,y13,y14,y15,y16,rfl⟩:∃ y0 y1 y2 y3 y4 y5 y6 y7 y8 y9 y10 y11 y12 y13 y14 y15 y16,xs=[y0,y1,y2,y3,y4,y5,y6,y7,y8,y9,y10,y11,y12,y13,y14,y15,y16]:=by
  match xs,hlen' with
  | [y0,y1,y2,y3,y4,y5,y6,y7,y8,y9,y10,y11,y12,y13,y14,y15,y16],_=>exact ⟨y0,y1,y2,y3,y4,y5,y6,y7,y8,y9,y10,y11,y12,y13,y14,y15,y16,rfl⟩
 simp only [Prod.mk.injEq,List.map_cons,List.map_nil] at hd
 obtain ⟨rfl,_⟩:=hd
 rw [show Tryz.prog.cellsOf 55=17 by kernel_rfl] at hl
 obtain ⟨c0,c1,c2,c3,c4,c5,c6,c7,c8,c9,c10,c11,c12,c13,c14,c15,c16,rfl⟩:∃ c0 c1 c2 c3 c4 c5 c6 c7 c8 c9 c10 c11 c12 c13 c14 c15 c16,x=[c0,c1,c2,c3,c4,c5,c6,c7,c8,c9,c10,c11,c12,c13,c14,c15,c16]:=by
  match x,hl with
  | [c0,c1,c2,c3,c4,c5,c6,c7,c8,c9,c10,c11,c12,c13,c14,c15,c16],_=>exact ⟨c0,c1,c2,c3,c4,c5,c6,c7,c8,c9,c10,c11,c12,c13,c14,c15,c16,rfl⟩
 have h0:DataW.trod enc Tryz.prog w0 0 (fun _=>true) true n 3 (([c0,c1,c2,c3,c4,c5,c6,c7,c8,c9,c10,c11,c12,c13,c14,c15,c16].drop 0).take (Tryz.prog.cellsOf 3))=some y0:=hf 0 _ rfl
 rw [show Tryz.prog.cellsOf 3=1 by kernel_rfl] at h0
 obtain ⟨n0,e0,u0⟩:=open_int1 (D:=y0.1) (Pl:=y0.2) h0
 simp only [List.drop_zero,List.drop_succ_cons,List.take_succ_cons,List.take_zero,List.cons.injEq,and_true] at e0
 have h1:DataW.trod enc Tryz.prog w0 0 (fun _=>true) true n 3 (([c0,c1,c2,c3,c4,c5,c6,c7,c8,c9,c10,c11,c12,c13,c14,c15,c16].drop 1).take (Tryz.prog.cellsOf 3))=some y1:=hf 1 _ rfl
 rw [show Tryz.prog.cellsOf 3=1 by kernel_rfl] at h1
 obtain ⟨n1,e1,u1⟩:=open_int1 (D:=y1.1) (Pl:=y1.2) h1
 simp only [List.drop_zero,List.drop_succ_cons,List.take_succ_cons,List.take_zero,List.cons.injEq,and_true] at e1
 have h2:DataW.trod enc Tryz.prog w0 0 (fun _=>true) true n 3 (([c0,c1,c2,c3,c4,c5,c6,c7,c8,c9,c10,c11,c12,c13,c14,c15,c16].drop 2).take (Tryz.prog.cellsOf 3))=some y2:=hf 2 _ rfl
 rw [show Tryz.prog.cellsOf 3=1 by kernel_rfl] at h2
 obtain ⟨n2,e2,u2⟩:=open_int1 (D:=y2.1) (Pl:=y2.2) h2
 simp only [List.drop_zero,List.drop_succ_cons,List.take_succ_cons,List.take_zero,List.cons.injEq,and_true] at e2
 have h3:DataW.trod enc Tryz.prog w0 0 (fun _=>true) true n 3 (([c0,c1,c2,c3,c4,c5,c6,c7,c8,c9,c10,c11,c12,c13,c14,c15,c16].drop 3).take (Tryz.prog.cellsOf 3))=some y3:=hf 3 _ rfl
 rw [show Tryz.prog.cellsOf 3=1 by kernel_rfl] at h3
 obtain ⟨n3,e3,u3⟩:=open_int1 (D:=y3.1) (Pl:=y3.2) h3
 simp only [List.drop_zero,List.drop_succ_cons,List.take_succ_cons,List.take_zero,List.cons.injEq,and_true] at e3
 have h4:DataW.trod enc Tryz.prog w0 0 (fun _=>true) true n 3 (([c0,c1,c2,c3,c4,c5,c6,c7,c8,c9,c10,c11,c12,c13,c14,c15,c16].drop 4).take (Tryz.prog.cellsOf 3))=some y4:=hf 4 _ rfl
 rw [show Tryz.prog.cellsOf 3=1 by kernel_rfl] at h4
 obtain ⟨n4,e4,u4⟩:=open_int1 (D:=y4.1) (Pl:=y4.2) h4
 simp only [List.drop_zero,List.drop_succ_cons,List.take_succ_cons,List.take_zero,List.cons.injEq,and_true] at e4
 have h5:DataW.trod enc Tryz.prog w0 0 (fun _=>true) true n 3 (([c0,c1,c2,c3,c4,c5,c6,c7,c8,c9,c10,c11,c12,c13,c14,c15,c16].drop 5).take (Tryz.prog.cellsOf 3))=some y5:=hf 5 _ rfl
 rw [show Tryz.prog.cellsOf 3=1 by kernel_rfl] at h5
 obtain ⟨n5,e5,u5⟩:=open_int1 (D:=y5.1) (Pl:=y5.2) h5
 simp only [List.drop_zero,List.drop_succ_cons,List.take_succ_cons,List.take_zero,List.cons.injEq,and_true] at e5
 have h6:DataW.trod enc Tryz.prog w0 0 (fun _=>true) true n 3 (([c0,c1,c2,c3,c4,c5,c6,c7,c8,c9,c10,c11,c12,c13,c14,c15,c16].drop 6).take (Tryz.prog.cellsOf 3))=some y6:=hf 6 _ rfl
 rw [show Tryz.prog.cellsOf 3=1 by kernel_rfl] at h6
 obtain ⟨n6,e6,u6⟩:=open_int1 (D:=y6.1) (Pl:=y6.2) h6
 simp only [List.drop_zero,List.drop_succ_cons,List.take_succ_cons,List.take_zero,List.cons.injEq,and_true] at e6
 have h7:DataW.trod enc Tryz.prog w0 0 (fun _=>true) true n 3 (([c0,c1,c2,c3,c4,c5,c6,c7,c8,c9,c10,c11,c12,c13,c14,c15,c16].drop 7).take (Tryz.prog.cellsOf 3))=some y7:=hf 7 _ rfl
 rw [show Tryz.prog.cellsOf 3=1 by kernel_rfl] at h7
 obtain ⟨n7,e7,u7⟩:=open_int1 (D:=y7.1) (Pl:=y7.2) h7
 simp only [List.drop_zero,List.drop_succ_cons,List.take_succ_cons,List.take_zero,List.cons.injEq,and_true] at e7
 have h8:DataW.trod enc Tryz.prog w0 0 (fun _=>true) true n 3 (([c0,c1,c2,c3,c4,c5,c6,c7,c8,c9,c10,c11,c12,c13,c14,c15,c16].drop 8).take (Tryz.prog.cellsOf 3))=some y8:=hf 8 _ rfl
 rw [show Tryz.prog.cellsOf 3=1 by kernel_rfl] at h8
 obtain ⟨n8,e8,u8⟩:=open_int1 (D:=y8.1) (Pl:=y8.2) h8
 simp only [List.drop_zero,List.drop_succ_cons,List.take_succ_cons,List.take_zero,List.cons.injEq,and_true] at e8
 have h9:DataW.trod enc Tryz.prog w0 0 (fun _=>true) true n 3 (([c0,c1,c2,c3,c4,c5,c6,c7,c8,c9,c10,c11,c12,c13,c14,c15,c16].drop 9).take (Tryz.prog.cellsOf 3))=some y9:=hf 9 _ rfl
 rw [show Tryz.prog.cellsOf 3=1 by kernel_rfl] at h9
 obtain ⟨n9,e9,u9⟩:=open_int1 (D:=y9.1) (Pl:=y9.2) h9
 simp only [List.drop_zero,List.drop_succ_cons,List.take_succ_cons,List.take_zero,List.cons.injEq,and_true] at e9
 have h10:DataW.trod enc Tryz.prog w0 0 (fun _=>true) true n 3 (([c0,c1,c2,c3,c4,c5,c6,c7,c8,c9,c10,c11,c12,c13,c14,c15,c16].drop 10).take (Tryz.prog.cellsOf 3))=some y10:=hf 10 _ rfl
 rw [show Tryz.prog.cellsOf 3=1 by kernel_rfl] at h10
 obtain ⟨n10,e10,u10⟩:=open_int1 (D:=y10.1) (Pl:=y10.2) h10
 simp only [List.drop_zero,List.drop_succ_cons,List.take_succ_cons,List.take_zero,List.cons.injEq,and_true] at e10
 have h11:DataW.trod enc Tryz.prog w0 0 (fun _=>true) true n 3 (([c0,c1,c2,c3,c4,c5,c6,c7,c8,c9,c10,c11,c12,c13,c14,c15,c16].drop 11).take (Tryz.prog.cellsOf 3))=some y11:=hf 11 _ rfl
 rw [show Tryz.prog.cellsOf 3=1 by kernel_rfl] at h11
 obtain ⟨n11,e11,u11⟩:=open_int1 (D:=y11.1) (Pl:=y11.2) h11
 simp only [List.drop_zero,List.drop_succ_cons,List.take_succ_cons,List.take_zero,List.cons.injEq,and_true] at e11
 have h12:DataW.trod enc Tryz.prog w0 0 (fun _=>true) true n 3 (([c0,c1,c2,c3,c4,c5,c6,c7,c8,c9,c10,c11,c12,c13,c14,c15,c16].drop 12).take (Tryz.prog.cellsOf 3))=some y12:=hf 12 _ rfl
 rw [show Tryz.prog.cellsOf 3=1 by kernel_rfl] at h12
 obtain ⟨n12,e12,u12⟩:=open_int1 (D:=y12.1) (Pl:=y12.2) h12
 simp only [List.drop_zero,List.drop_succ_cons,List.take_succ_cons,List.take_zero,List.cons.injEq,and_true] at e12
 have h13:DataW.trod enc Tryz.prog w0 0 (fun _=>true) true n 3 (([c0,c1,c2,c3,c4,c5,c6,c7,c8,c9,c10,c11,c12,c13,c14,c15,c16].drop 13).take (Tryz.prog.cellsOf 3))=some y13:=hf 13 _ rfl
 rw [show Tryz.prog.cellsOf 3=1 by kernel_rfl] at h13
 obtain ⟨n13,e13,u13⟩:=open_int1 (D:=y13.1) (Pl:=y13.2) h13
 simp only [List.drop_zero,List.drop_succ_cons,List.take_succ_cons,List.take_zero,List.cons.injEq,and_true] at e13
 have h14:DataW.trod enc Tryz.prog w0 0 (fun _=>true) true n 4 (([c0,c1,c2,c3,c4,c5,c6,c7,c8,c9,c10,c11,c12,c13,c14,c15,c16].drop 14).take (Tryz.prog.cellsOf 4))=some y14:=hf 14 _ rfl
 rw [show Tryz.prog.cellsOf 4=1 by kernel_rfl] at h14
 obtain ⟨b14,e14,_⟩:=DataW.trod_bool Tryz.underlying4 h14
 simp only [List.drop_zero,List.drop_succ_cons,List.take_succ_cons,List.take_zero,List.cons.injEq,and_true] at e14
 have h15:DataW.trod enc Tryz.prog w0 0 (fun _=>true) true n 53 (([c0,c1,c2,c3,c4,c5,c6,c7,c8,c9,c10,c11,c12,c13,c14,c15,c16].drop 15).take (Tryz.prog.cellsOf 53))=some y15:=hf 15 _ rfl
 rw [show Tryz.prog.cellsOf 53=1 by kernel_rfl] at h15
 obtain ⟨l15,r15,z15,q15⟩:=open_ents (d:=y15.1) (p:=y15.2) h15 (fun m hm=>hB m (by
  simp only [DataW.weights,Tryz.underlying55]
  exact DataW.weights_mem_each (j:=15) (t:=53) M M m hm))
 have h16:DataW.trod enc Tryz.prog w0 0 (fun _=>true) true n 35 (([c0,c1,c2,c3,c4,c5,c6,c7,c8,c9,c10,c11,c12,c13,c14,c15,c16].drop 16).take (Tryz.prog.cellsOf 35))=some y16:=hf 16 _ rfl
 rw [show Tryz.prog.cellsOf 35=1 by kernel_rfl] at h16
 obtain ⟨l16,r16,z16⟩:=open_bytes (d:=y16.1) (p:=y16.2) h16 (fun m hm=>hB m (by
  simp only [DataW.weights,Tryz.underlying55]
  exact DataW.weights_mem_each (j:=16) (t:=35) M M m hm))
 subst e0 e1 e2 e3 e4 e5 e6 e7 e8 e9 e10 e11 e12 e13 e14
 obtain ⟨a15,s15,rfl⟩:=r15.shape
 obtain ⟨a16,s16,rfl⟩:=r16.shape
 have hrb:=reachBytes_lt
 exact ⟨⟨n0,n1,n2,n3,n4,n5,n6,n7,n8,n9,n10,n11,n12,n13,b14,l15,l16⟩,a15,s15,a16,s16,rfl,r15,r16,by show l15.length≤_; omega⟩
theorem open_lop {fuel:Nat} {x:List Value} {D:DataW H} {Pl:List MemPlace} (h:DataW.trod enc Tryz.prog w0 0 (fun _=>true) true fuel 57 x=some (D,Pl)) (hB:∀ m∈D.weights Tryz.prog 57,m≤reachBytes) :
  ∃ q:Lop,Rep.rd w0 0 q x∧LopIn q:=by
 obtain ⟨xs,n,_,hd,hl,hlen,hf⟩:=DataW.trod_struct Tryz.underlying57 h
 have hlen':xs.length=4:=hlen
 clear hlen
 obtain ⟨y0,y1,y2,y3,rfl⟩:∃ y0 y1 y2 y3,xs=[y0,y1,y2,y3]:=by
  match xs,hlen' with
  | [y0,y1,y2,y3],_=>exact ⟨y0,y1,y2,y3,rfl⟩
 simp only [Prod.mk.injEq,List.map_cons,List.map_nil] at hd
 obtain ⟨rfl,_⟩:=hd
 rw [show Tryz.prog.cellsOf 57=34 by kernel_rfl] at hl
 obtain ⟨c0,c1,c2,c3,c4,c5,c6,c7,c8,c9,c10,c11,c12,c13,c14,c15,c16,c17,c18,c19,c20,c21,c22,c23,c24,c25,c26,c27,c28,c29,c30,c31,c32,c33,rfl⟩:∃ c0 c1 c2 c3 c4 c5 c6 c7 c8 c9 c10 c11 c12 c13 c14 c15 c16 c17 c18 c19 c20 c21 c22 c23 c24 c25 c26 c27 c28 c29 c30 c31 c32 c33,x=(c0::c1::c2::c3::c4::c5::c6::c7::c8::c9::c10::c11::c12::c13::c14::c15::c16::c17::c18::c19::c20::c21::c22::c23::c24::c25::c26::c27::c28::c29::c30::c31::c32::c33::[]):=by
  match x,hl with
  | (c0::c1::c2::c3::c4::c5::c6::c7::c8::c9::c10::c11::c12::c13::c14::c15::c16::c17::c18::c19::c20::c21::c22::c23::c24::c25::c26::c27::c28::c29::c30::c31::c32::c33::[]),_=>exact ⟨c0,c1,c2,c3,c4,c5,c6,c7,c8,c9,c10,c11,c12,c13,c14,c15,c16,c17,c18,c19,c20,c21,c22,c23,c24,c25,c26,c27,c28,c29,c30,c31,c32,c33,rfl⟩
 have h0:DataW.trod enc Tryz.prog w0 0 (fun _=>true) true n 3 (((c0::c1::c2::c3::c4::c5::c6::c7::c8::c9::c10::c11::c12::c13::c14::c15::c16::c17::c18::c19::c20::c21::c22::c23::c24::c25::c26::c27::c28::c29::c30::c31::c32::c33::[]).drop 0).take (Tryz.prog.cellsOf 3))=some y0:=hf 0 _ rfl
 rw [show Tryz.prog.cellsOf 3=1 by kernel_rfl] at h0
 obtain ⟨n0,e0,u0⟩:=open_int1 (D:=y0.1) (Pl:=y0.2) h0
 simp only [List.drop_zero,List.drop_succ_cons,List.take_succ_cons,List.take_zero,List.cons.injEq,and_true] at e0
 have h1:DataW.trod enc Tryz.prog w0 0 (fun _=>true) true n 41 (((c0::c1::c2::c3::c4::c5::c6::c7::c8::c9::c10::c11::c12::c13::c14::c15::c16::c17::c18::c19::c20::c21::c22::c23::c24::c25::c26::c27::c28::c29::c30::c31::c32::c33::[]).drop 1).take (Tryz.prog.cellsOf 41))=some y1:=hf 1 _ rfl
 rw [show Tryz.prog.cellsOf 41=13 by kernel_rfl] at h1
 simp only [List.drop_zero,List.drop_succ_cons,List.take_succ_cons,List.take_zero,List.cons.injEq,and_true] at h1
 obtain ⟨q1,d1,a1,s1,e1,r1,u1⟩:=open_call (D:=y1.1) (Pl:=y1.2) h1 (fun m hm=>hB m (by
  simp only [DataW.weights,Tryz.underlying57]
  exact DataW.weights_mem_each (j:=1) (t:=41) M M m hm))
 simp only [cellsX,List.cons.injEq,and_true] at e1
 have h2:DataW.trod enc Tryz.prog w0 0 (fun _=>true) true n 52 (((c0::c1::c2::c3::c4::c5::c6::c7::c8::c9::c10::c11::c12::c13::c14::c15::c16::c17::c18::c19::c20::c21::c22::c23::c24::c25::c26::c27::c28::c29::c30::c31::c32::c33::[]).drop 14).take (Tryz.prog.cellsOf 52))=some y2:=hf 2 _ rfl
 rw [show Tryz.prog.cellsOf 52=3 by kernel_rfl] at h2
 simp only [List.drop_zero,List.drop_succ_cons,List.take_succ_cons,List.take_zero,List.cons.injEq,and_true] at h2
 obtain ⟨q2,a2,s2,e2,r2,u2⟩:=open_pkt (D:=y2.1) (Pl:=y2.2) h2 (fun m hm=>hB m (by
  simp only [DataW.weights,Tryz.underlying57]
  exact DataW.weights_mem_each (j:=2) (t:=52) M M m hm))
 simp only [List.cons.injEq,and_true] at e2
 have h3:DataW.trod enc Tryz.prog w0 0 (fun _=>true) true n 55 (((c0::c1::c2::c3::c4::c5::c6::c7::c8::c9::c10::c11::c12::c13::c14::c15::c16::c17::c18::c19::c20::c21::c22::c23::c24::c25::c26::c27::c28::c29::c30::c31::c32::c33::[]).drop 17).take (Tryz.prog.cellsOf 55))=some y3:=hf 3 _ rfl
 rw [show Tryz.prog.cellsOf 55=17 by kernel_rfl] at h3
 simp only [List.drop_zero,List.drop_succ_cons,List.take_succ_cons,List.take_zero,List.cons.injEq,and_true] at h3
 obtain ⟨q3,a3,s3,f3,g3,e3,r3,v3,u3⟩:=open_msg (D:=y3.1) (Pl:=y3.2) h3 (fun m hm=>hB m (by
  simp only [DataW.weights,Tryz.underlying57]
  exact DataW.weights_mem_each (j:=3) (t:=55) M M m hm))
 simp only [cellsM,List.cons.injEq,and_true] at e3
 obtain ⟨rfl,rfl,rfl,rfl,rfl,rfl,rfl,rfl,rfl,rfl,rfl,rfl,rfl⟩:=e1
 obtain ⟨rfl,rfl,rfl⟩:=e2
 obtain ⟨rfl,rfl,rfl,rfl,rfl,rfl,rfl,rfl,rfl,rfl,rfl,rfl,rfl,rfl,rfl,rfl,rfl⟩:=e3
 subst e0
 have hrb:=reachBytes_lt
 exact ⟨⟨n0,q1,d1,q2,q3⟩,⟨a1,s1,a2,s2,a3,s3,f3,g3,rfl,r1,r2,r3,v3,u2⟩,⟨⟨u3⟩,u1⟩⟩
theorem open_lops {fuel:Nat} {v:Value} {d:DataW H} {p:List MemPlace} (h:DataW.trod enc Tryz.prog w0 0 (fun _=>true) true fuel 47 [v]=some (d,p)) (hB:∀ n∈d.weights Tryz.prog 47,n≤reachBytes) :
  ∃ l:List Lop,RdL w0 0 v l∧l.length*336≤reachBytes∧∀ q∈l,LopIn q :=
 open_list (α:=Lop) (B:=336) (fun q=>LopIn q) Tryz.underlying47 (show Tryz.prog.cellsOf 57=_ by kernel_rfl) (by decide) (by kernel_rfl) (fun n x D Pl hx hw=>open_lop hx hw) h hB
theorem open_conf {fuel:Nat} {x:List Value} {D:DataW H} {Pl:List MemPlace} (h:DataW.trod enc Tryz.prog w0 0 (fun _=>true) true fuel 32 x=some (D,Pl)) (hB:∀ m∈D.weights Tryz.prog 32,m≤reachBytes) :
  ∃ (k:Cfg) (am:Option Addr) (cm:Nat) (ar:Option Addr) (cr:Nat) (ax:Option Addr) (cs:Nat),x=cellsC k (.slice am k.mem.length cm) (.slice ar k.rngs.length cr) (.slice ax k.sets.length cs)∧RdL w0 0 (.slice am k.mem.length cm) k.mem∧RdL w0 0 (.slice ar k.rngs.length cr) k.rngs∧RdL w0 0 (.slice ax k.sets.length cs) k.sets∧k.mem.length≤10000000000000∧(∀ r∈k.rngs,Sl.I64 r.epoch)∧∀ s∈k.sets,Sl.I64 s.lo∧Sl.I64 s.hi:=by
 obtain ⟨xs,n,_,hd,hl,hlen,hf⟩:=DataW.trod_struct Tryz.underlying32 h
 have hlen':xs.length=6:=hlen
 clear hlen
 obtain ⟨y0,y1,y2,y3,y4,y5,rfl⟩:∃ y0 y1 y2 y3 y4 y5,xs=[y0,y1,y2,y3,y4,y5]:=by
  match xs,hlen' with
  | [y0,y1,y2,y3,y4,y5],_=>exact ⟨y0,y1,y2,y3,y4,y5,rfl⟩
 simp only [Prod.mk.injEq,List.map_cons,List.map_nil] at hd
 obtain ⟨rfl,_⟩:=hd
 rw [show Tryz.prog.cellsOf 32=6 by kernel_rfl] at hl
 obtain ⟨c0,c1,c2,c3,c4,c5,rfl⟩:∃ c0 c1 c2 c3 c4 c5,x=[c0,c1,c2,c3,c4,c5]:=by
  match x,hl with
  | [c0,c1,c2,c3,c4,c5],_=>exact ⟨c0,c1,c2,c3,c4,c5,rfl⟩
 have h0:DataW.trod enc Tryz.prog w0 0 (fun _=>true) true n 3 (([c0,c1,c2,c3,c4,c5].drop 0).take (Tryz.prog.cellsOf 3))=some y0:=hf 0 _ rfl
 rw [show Tryz.prog.cellsOf 3=1 by kernel_rfl] at h0
 obtain ⟨n0,e0,u0⟩:=open_int1 (D:=y0.1) (Pl:=y0.2) h0
 simp only [List.drop_zero,List.drop_succ_cons,List.take_succ_cons,List.take_zero,List.cons.injEq,and_true] at e0
 have h1:DataW.trod enc Tryz.prog w0 0 (fun _=>true) true n 3 (([c0,c1,c2,c3,c4,c5].drop 1).take (Tryz.prog.cellsOf 3))=some y1:=hf 1 _ rfl
 rw [show Tryz.prog.cellsOf 3=1 by kernel_rfl] at h1
 obtain ⟨n1,e1,u1⟩:=open_int1 (D:=y1.1) (Pl:=y1.2) h1
 simp only [List.drop_zero,List.drop_succ_cons,List.take_succ_cons,List.take_zero,List.cons.injEq,and_true] at e1
 have h2:DataW.trod enc Tryz.prog w0 0 (fun _=>true) true n 3 (([c0,c1,c2,c3,c4,c5].drop 2).take (Tryz.prog.cellsOf 3))=some y2:=hf 2 _ rfl
 rw [show Tryz.prog.cellsOf 3=1 by kernel_rfl] at h2
 obtain ⟨n2,e2,u2⟩:=open_int1 (D:=y2.1) (Pl:=y2.2) h2
 simp only [List.drop_zero,List.drop_succ_cons,List.take_succ_cons,List.take_zero,List.cons.injEq,and_true] at e2
 have h3:DataW.trod enc Tryz.prog w0 0 (fun _=>true) true n 28 (([c0,c1,c2,c3,c4,c5].drop 3).take (Tryz.prog.cellsOf 28))=some y3:=hf 3 _ rfl
 rw [show Tryz.prog.cellsOf 28=1 by kernel_rfl] at h3
 obtain ⟨l3,r3,z3⟩:=open_lis (d:=y3.1) (p:=y3.2) h3 (fun m hm=>hB m (by
  simp only [DataW.weights,Tryz.underlying32]
  exact DataW.weights_mem_each (j:=3) (t:=28) M M m hm))
 have h4:DataW.trod enc Tryz.prog w0 0 (fun _=>true) true n 29 (([c0,c1,c2,c3,c4,c5].drop 4).take (Tryz.prog.cellsOf 29))=some y4:=hf 4 _ rfl
 rw [show Tryz.prog.cellsOf 29=1 by kernel_rfl] at h4
 obtain ⟨l4,r4,z4,q4⟩:=open_rngs (d:=y4.1) (p:=y4.2) h4 (fun m hm=>hB m (by
  simp only [DataW.weights,Tryz.underlying32]
  exact DataW.weights_mem_each (j:=4) (t:=29) M M m hm))
 have h5:DataW.trod enc Tryz.prog w0 0 (fun _=>true) true n 30 (([c0,c1,c2,c3,c4,c5].drop 5).take (Tryz.prog.cellsOf 30))=some y5:=hf 5 _ rfl
 rw [show Tryz.prog.cellsOf 30=1 by kernel_rfl] at h5
 obtain ⟨l5,r5,z5,q5⟩:=open_spns (d:=y5.1) (p:=y5.2) h5 (fun m hm=>hB m (by
  simp only [DataW.weights,Tryz.underlying32]
  exact DataW.weights_mem_each (j:=5) (t:=30) M M m hm))
 subst e0 e1 e2
 obtain ⟨a3,s3,rfl⟩:=r3.shape
 obtain ⟨a4,s4,rfl⟩:=r4.shape
 obtain ⟨a5,s5,rfl⟩:=r5.shape
 have hrb:=reachBytes_lt
 exact ⟨⟨n0,n1,n2,l3,l4,l5⟩,a3,s3,a4,s4,a5,s5,rfl,r3,r4,r5,by show l3.length≤_; omega,q4,q5⟩
end
end Go.Proofs.YtfahijncpmlhjaaGreat.clIn
namespace Go.Proofs.YtfahijncpmlhjaaGreat.clientOnce
open Sl clIn
open Go.ChangeShapes Go.WideShapes Go.ChangeAt Go.RowKit Go.Deep
theorem walk (w:World) (f0:Cfg) (am0:Option Addr) (cm0:Nat) (ar0:Option Addr) (cr0:Nat) (ax0:Option Addr) (cx0:Nat) (e0:List Value) (he0:e0=cellsC f0 (.slice am0 f0.mem.length cm0) (.slice ar0 f0.rngs.length cr0) (.slice ax0 f0.sets.length cx0)) (rm0:RdL w 0 (.slice am0 f0.mem.length cm0) f0.mem) (rr0:RdL w 0 (.slice ar0 f0.rngs.length cr0) f0.rngs) (rx0:RdL w 0 (.slice ax0 f0.sets.length cx0) f0.sets) (bb0:f0.mem.length≤10000000000000) (qq0:∀ r∈f0.rngs,Sl.I64 r.epoch) (ss0:∀ s∈f0.sets,Sl.I64 s.lo∧Sl.I64 s.hi) (n1:Int) (v2:Value) (l2:List Lop) (r2:RdL w 0 v2 l2) (b2:l2.length≤1000000000000) (q2:∀ o∈l2,LopIn o) :
  Calls Tryz.prog 4 #[.agg e0.toArray,.int .i64 n1,v2] w fun e w'=>e=.returned (.bool true)∧Below w.heap.size w w':=by
 have h:=clientOnce_all w f0 am0 cm0 ar0 cr0 ax0 cx0 e0 n1 v2 l2 he0 rm0 rr0 rx0 bb0 qq0 ss0 r2 b2 q2 w 0 (by rw [hzero_add]; exact St.start w)
 refine h.mono ?_
 rintro e w' ⟨v,h',rfl,⟨rfl,rfl⟩,hst⟩
 exact ⟨rfl,hst.below⟩
set_option maxRecDepth 100000 in
theorem lifted (os:Os) (started:os.Started) (H:Type) (enc:TypeId × Value→H) :
  ReturnsInHanded {} Tryz.checked os 4 .any (Rows.clientOnceSpec.pre6 enc Tryz.prog Tryz.f4 Rows.clientOnceRow.domain false) (Rows.clientOnceSpec.post enc Tryz.prog Tryz.f4 false true false false):=by
 refine returnsInHanded_of_change_sized (C:=Tryz.checked) own started (by kernel_rfl) Tryz.func4
  (ChangeSpec.witness6 (enc:=enc) (C:=Tryz.checked) false ⟨#[],#[.agg #[.int .i64 0,.int .i64 0,.int .i64 0,.slice none 0 0,.slice none 0 0,.slice none 0 0],.int .i64 0,.slice none 0 0],[]⟩ 8 (by kernel_rfl) (by kernel_rfl) (by kernel_rfl) (by kernel_rfl)) ?_
 intro W base args ds gs before hval0 hW hcnd hsz0 _
 have hsz:(DataW.weightsEach Tryz.prog (Tryz.f4.params.toList++Rows.clientOnceSpec.plain.varTypes Tryz.prog) (ds++gs)).all (·≤reachBytes)=true:=hsz0
 clear hsz0
 have hval:∀ (j:Nat) t v,Tryz.f4.params[j]?=some t→args[j]?=some v→Value.okWide Tryz.prog W .any base t v:=hval0
 have hW':=hW
 obtain ⟨p,q,hA0,hV,rfl,hfz,hnd⟩:=hW
 have hA:DataW.TrodAll enc Tryz.prog W 0 (fun _=>true) true Tryz.f4.params.toList args.toList ds p:=hA0
 rw [Tryz.params4] at hA hval
 obtain ⟨v0,vs0,d0,ds0,p0,q0,hargs,rfl,rfl,h0,r0⟩:=trodAll_cons hA
 obtain ⟨v1,vs1,d1,ds1,p1,q1,rfl,rfl,rfl,h1,r1⟩:=trodAll_cons r0
 obtain ⟨v2,vs2,d2,ds2,p2,q2,rfl,rfl,rfl,h2,r2⟩:=trodAll_cons r1
 obtain ⟨rfl,rfl,rfl⟩:=trodAll_nil r2
 obtain rfl:args=#[v0,v1,v2]:=by cases args; simp_all
 obtain ⟨rfl,rfl⟩:=trodVars_none hV
 have k0:=h0
 have lt0:∀ x∈p0,x.block<W.heap.size:=by obtain ⟨m,hm⟩:=k0; exact DataW.trod_lt m _ _ _ hm
 obtain ⟨cs0,rfl,_⟩:=okWide_struct Tryz.underlying32 (hval 0 32 v0 rfl rfl)
 obtain ⟨fuel0,hf0⟩:=h0
 obtain ⟨f0,am0,cm0,ar0,cr0,ax0,cx0,he0,rm0,rr0,rx0,bb0,qq0,ss0⟩:=open_conf hf0 (fun m hm=>by simpa using List.all_eq_true.1 hsz m (DataW.weights_mem_each (j:=0) (t:=32) rfl rfl m hm))
 have k1:=h1
 have lt1:∀ x∈p1,x.block<W.heap.size:=by obtain ⟨m,hm⟩:=k1; exact DataW.trod_lt m _ _ _ hm
 obtain ⟨n1,rfl⟩:=okWide_int Tryz.underlying3 (hval 1 3 v1 rfl rfl)
 have k2:=h2
 have lt2:∀ x∈p2,x.block<W.heap.size:=by obtain ⟨m,hm⟩:=k2; exact DataW.trod_lt m _ _ _ hm
 obtain ⟨a2,len2,cap2,rfl⟩:=okWide_slice Tryz.underlying47 (hval 2 47 v2 rfl rfl)
 obtain ⟨fuel2,hf2⟩:=h2
 obtain ⟨l2,w2,z2,y2⟩:=open_lops hf2 (fun m hm=>by simpa using List.all_eq_true.1 hsz m (DataW.weights_mem_each (j:=2) (t:=47) rfl rfl m hm))
 clear hA0 hval0 hsz
 refine (walk W f0 am0 cm0 ar0 cr0 ax0 cx0 cs0.toList he0 rm0 rr0 rx0 bb0 qq0 ss0 n1 _ l2 w2 (by have:=reachBytes_lt; omega) y2).mono fun e W' ⟨he,bel⟩=>?_
 subst he
 exact ⟨_,rfl,_,_,_,[],_,[],hW',trodAll_mk1 (shut_bool Tryz.underlying4 _),(trodAll_cons_mk (Below.trod laidOut (by kernel_rfl) (of_decide_eq_true (by kernel_rfl)) k0 bel lt0) (trodAll_cons_mk (Below.trod laidOut (by kernel_rfl) (of_decide_eq_true (by kernel_rfl)) k1 bel lt1) (trodAll_cons_mk (Below.trod laidOut (by kernel_rfl) (of_decide_eq_true (by kernel_rfl)) k2 bel lt2) trodAll_mk0))),rfl,bel.frame _,fun h=>by cases h⟩
def j1 (P:Program) (f:FuncId) (fn:Func) (s:ChangeSpec) (c:OpenClaim):Bool:=laidOutB P
def j2 (P:Program) (f:FuncId) (fn:Func) (s:ChangeSpec) (c:OpenClaim):Bool:=mapsRowed P
def j9 (P:Program) (f:FuncId) (fn:Func) (s:ChangeSpec) (c:OpenClaim):Bool:=(c.inPlace==P.inPlace f)
def j10 (P:Program) (f:FuncId) (fn:Func) (s:ChangeSpec) (c:OpenClaim):Bool:=(c.unfollowed==P.unfollowed f)
def j11 (P:Program) (f:FuncId) (fn:Func) (s:ChangeSpec) (c:OpenClaim):Bool:=(c.recurses==P.recurses f)
def j12 (P:Program) (f:FuncId) (fn:Func) (s:ChangeSpec) (c:OpenClaim):Bool:=(c.named==P.varsNamed f)
def j22 (P:Program) (f:FuncId) (fn:Func) (s:ChangeSpec) (c:OpenClaim):Bool:=(c.plainKeys==P.plainKeys)
def j24 (P:Program) (f:FuncId) (fn:Func) (s:ChangeSpec) (c:OpenClaim):Bool:=P.stopsHeard
def j25 (P:Program) (f:FuncId) (fn:Func) (s:ChangeSpec) (c:OpenClaim):Bool:=P.mayEnter
def j26 (P:Program) (f:FuncId) (fn:Func) (s:ChangeSpec) (c:OpenClaim):Bool:=(c.lifted==P.liftsFinal)
def j27 (P:Program) (f:FuncId) (fn:Func) (s:ChangeSpec) (c:OpenClaim):Bool:=(P.make==some c.make)
def jr (P:Program) (f:FuncId) (fn:Func) (s:ChangeSpec) (c:OpenClaim):Bool:=c.wf (OpenSpec.ofChange s)&&fn.params.all (P.readableRec ·)&&namedTie P c.named s.vars&&(c.stops==[])&&(P.stops==[])&&(c.knobs==[])&&(P.stopKnobs==[])&&(c.maps==(fn.params.toList++s.plain.varTypes P).any (P.mapsRec ·))&&(c.ifaces==(fn.params.toList++s.plain.varTypes P).any (P.ifacesRec ·))&&(c.mapsOut==P.mapsAmong fn.resultTypes.toList)&&(c.loops==(fn.params.toList++s.plain.varTypes P).any (P.loopsFrom ·))&&(c.wideKeys==(fn.params.toList++s.plain.varTypes P++fn.resultTypes.toList).any (P.wideKeysFrom ·))&&s.vars.all (P.varReadable ·)&&fn.resultTypes.all (fun t=>P.readableRec t&&decide (t<P.types.size))&&(c.ifacesOut==fn.resultTypes.toList.any (P.ifacesRec ·))&&(c.loopsOut==fn.resultTypes.toList.any (P.loopsFrom ·))&&c.shortTexts.isNone&&(c.kinds==(if c.domain.isEmpty then [] else fn.params.toList.map fun t=>match P.underlying t with|some (.int k)=>some k|_=>none))&&(c.pinned==c.pinnedBy)&&(c.veiled==(fn.params.toList++s.plain.varTypes P++fn.resultTypes.toList).any (P.veiledRec ·))&&c.veiledFits P fn.params.toList (fn.params.toList++s.plain.varTypes P++fn.resultTypes.toList)
theorem joined {P:Program} {f:FuncId} {fn:Func} {s:ChangeSpec} {c:OpenClaim} (hr:jr P f fn s c=true) (h1:j1 P f fn s c=true) (h2:j2 P f fn s c=true) (h9:j9 P f fn s c=true) (h10:j10 P f fn s c=true) (h11:j11 P f fn s c=true) (h12:j12 P f fn s c=true) (h22:j22 P f fn s c=true) (h24:j24 P f fn s c=true) (h25:j25 P f fn s c=true) (h26:j26 P f fn s c=true) (h27:j27 P f fn s c=true):joinedFacts P f fn s c=true:=by
 unfold jr at hr
 unfold j1 at h1
 unfold j2 at h2
 unfold j9 at h9
 unfold j10 at h10
 unfold j11 at h11
 unfold j12 at h12
 unfold j22 at h22
 unfold j24 at h24
 unfold j25 at h25
 unfold j26 at h26
 unfold j27 at h27
 unfold joinedFacts
 simp only [Bool.and_eq_true] at hr ⊢
 obtain ⟨⟨⟨⟨⟨⟨⟨⟨⟨⟨⟨⟨⟨⟨⟨⟨⟨⟨⟨⟨r0,r3⟩,r4⟩,r5⟩,r6⟩,r7⟩,r8⟩,r13⟩,r14⟩,r15⟩,r16⟩,r17⟩,r18⟩,r19⟩,r20⟩,r21⟩,r23⟩,r28⟩,r29⟩,r30⟩,r31⟩:=hr
 exact ⟨⟨⟨⟨⟨⟨⟨⟨⟨⟨⟨⟨⟨⟨⟨⟨⟨⟨⟨⟨⟨⟨⟨⟨⟨⟨⟨⟨⟨⟨⟨r0,h1⟩,h2⟩,r3⟩,r4⟩,r5⟩,r6⟩,r7⟩,r8⟩,h9⟩,h10⟩,h11⟩,h12⟩,r13⟩,r14⟩,r15⟩,r16⟩,r17⟩,r18⟩,r19⟩,r20⟩,r21⟩,h22⟩,r23⟩,h24⟩,h25⟩,h26⟩,h27⟩,r28⟩,r29⟩,r30⟩,r31⟩
theorem fact1 :j1 Tryz.prog 4 Tryz.f4 Rows.clientOnceSpec Rows.clientOnceRow=true:=by kernel_rfl
theorem fact2 :j2 Tryz.prog 4 Tryz.f4 Rows.clientOnceSpec Rows.clientOnceRow=true:=by kernel_rfl
theorem fact9 :j9 Tryz.prog 4 Tryz.f4 Rows.clientOnceSpec Rows.clientOnceRow=true:=by kernel_rfl
theorem fact10 :j10 Tryz.prog 4 Tryz.f4 Rows.clientOnceSpec Rows.clientOnceRow=true:=by kernel_rfl
theorem fact11 :j11 Tryz.prog 4 Tryz.f4 Rows.clientOnceSpec Rows.clientOnceRow=true:=by kernel_rfl
theorem fact12 :j12 Tryz.prog 4 Tryz.f4 Rows.clientOnceSpec Rows.clientOnceRow=true:=by kernel_rfl
theorem fact22 :j22 Tryz.prog 4 Tryz.f4 Rows.clientOnceSpec Rows.clientOnceRow=true:=by kernel_rfl
theorem fact24 :j24 Tryz.prog 4 Tryz.f4 Rows.clientOnceSpec Rows.clientOnceRow=true:=by kernel_rfl
theorem fact25 :j25 Tryz.prog 4 Tryz.f4 Rows.clientOnceSpec Rows.clientOnceRow=true:=by kernel_rfl
theorem fact26 :j26 Tryz.prog 4 Tryz.f4 Rows.clientOnceSpec Rows.clientOnceRow=true:=by kernel_rfl
theorem fact27 :j27 Tryz.prog 4 Tryz.f4 Rows.clientOnceSpec Rows.clientOnceRow=true:=by kernel_rfl
theorem factr :jr Tryz.prog 4 Tryz.f4 Rows.clientOnceSpec Rows.clientOnceRow=true:=by kernel_rfl
theorem over :Rows.clientOnceRow.holds Tryz.pinned (OpenSpec.ofChange Rows.clientOnceSpec) :=
 OpenClaim.holds_of_wide 4 Tryz.f4 M M M M M M M ⟨rfl,rfl,rfl,rfl,rfl⟩ rfl M M M M (by kernel_rfl) Tryz.func4 (joined factr fact1 fact2 fact9 fact10 fact11 fact12 fact22 fact24 fact25 fact26 fact27)
  (of_decide_eq_true (by kernel_rfl)) (by unfold Func.isWrapper; first|(rw [if_pos (by decide +kernel)]; kernel_rfl)|(rw [if_neg (by decide +kernel)]; exact ⟨rfl,rfl⟩))
  (fun os started H enc _=>lifted os started H enc)
theorem proved :Rows.ClientOnceSaid:=over
end Go.Proofs.YtfahijncpmlhjaaGreat.clientOnce
