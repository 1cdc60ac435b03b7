/-
  shardBytes.proved: for all that is handed in the law function returns true, and what it is given reads as it did. No condition. (Also: Open, ShIn, CBytes.)
-/
import Derived.Test.YtpkealohodeifaaGreatBy1
import Derived.Deep.Slices
import Derived.Deep.Strs
import Derived.Lib.SmallJoins
import Derived.ChangeArms
import Derived.SizedLaws
import Derived.Test.YtpkealohodeifaaGreatRows
import Derived.WalkKit
import Derived.ProofKit
import Derived.OpenShut
import Derived.ShutString
import Derived.ChangeOld
import Derived.Below
import Derived.Test.YtpkealohodeifaaGreatBy6
import Derived.Test.YtpkealohodeifaaGreatBy7
set_option linter.unusedVariables false
set_option linter.unusedSimpArgs false
namespace Go.Proofs.YtpkealohodeifaaGreat
open Go Go.RowKit Go.ChangeShapes Go.WideShapes Go.ChangeAt Go.Deep
namespace Sl
section
variable {H:Type} {enc:TypeId × Value→H} {P:Program} {w0:World}
theorem weightsAll_mem' {e:TypeId}:∀ {l:List (DataW H)} {d:DataW H},d∈l→∀ n∈d.weights P e,n∈DataW.weightsAll P e l
 | x::l,d,hd,n,hn=>by
  simp only [DataW.weightsAll]
  rcases List.mem_cons.1 hd with rfl|hd
  ·exact List.mem_append_left _ hn
  ·exact List.mem_append_right _ (weightsAll_mem' hd n hn)
theorem open_rd {t e:TypeId} {sz fuel:Nat} {v:Value} {d:DataW H} {p:List MemPlace} (ht:P.underlying t=some (.slice e)) (hsz:P.cellsOf e=sz) (h0:0<sz)
  (h:DataW.trod enc P w0 0 (fun _=>true) true fuel t [v]=some (d,p)) {B:Nat} (hB:∀ n∈d.weights P t,n≤B) :
  ∃ es,RdRow w0 0 sz v es∧es.length*P.bytesOf e≤B∧∀ (i:Nat) (x:List Value),es[i]?=some x→∃ D Pl n,DataW.trod enc P w0 0 (fun _=>true) true n e x=some (D,Pl)∧∀ m∈D.weights P e,m≤B:=by
 rcases open_slice ht h with ⟨hc,hx⟩|⟨a,len,cap,m,n,D,Pl,hc,hb,hl,hm,hmm,hx,hall⟩
 ·simp only [List.cons.injEq,and_true] at hc
  subst hc
  exact ⟨[],⟨none,0,rfl,by simp,fun i x hx=>by simp at hx⟩,by simp,fun i x hx=>by simp at hx⟩
 ·simp only [List.cons.injEq,and_true] at hc
  subst hc
  simp only [if_true] at hmm
  subst hmm
  simp only [Prod.mk.injEq] at hx
  obtain ⟨rfl,rfl⟩:=hx
  rw [hsz] at hall
  obtain ⟨F,hF⟩:=choose_lt (α:=List Value) hall
  have hat:∀ (i:Nat) (x:List Value),((List.range len).map F)[i]?=some x→i<len∧x=F i:=by
   intro i x hx
   rw [List.getElem?_map] at hx
   by_cases hi:i<len
   ·rw [List.getElem?_range hi] at hx
    exact ⟨hi,(Option.some.inj hx).symm⟩
   ·rw [List.getElem?_eq_none (by simpa using hi)] at hx; cases hx
  have hlen:∀ i,i<len→(F i).length=sz:=fun i hi=>(World.cells?_some (hF i (by omega)).1).2.1
  refine ⟨(List.range len).map F,⟨some a,m,by simp,?_,?_⟩,?_,?_⟩
  ·intro x hx
   obtain ⟨i,hi,rfl⟩:=List.mem_map.1 hx
   exact hlen i (List.mem_range.1 hi)
  ·intro i x hx
   obtain ⟨hi,rfl⟩:=hat i x hx
   have hspot:a.spot=none:=by
    obtain ⟨_,h2,h3⟩:=World.cells?_some (hF 0 (by omega)).1
    have h4:=h3 0 h0
    rw [List.getElem?_eq_getElem (show 0<(F 0).length by omega)] at h4
    simpa [Addr.add] using World.cell?_spot h4
   obtain ⟨b,off,spot⟩:=a
   obtain rfl:spot=none:=hspot
   refine ⟨b,off,rfl,fun j u hu=>?_⟩
   obtain ⟨_,h2,h3⟩:=World.cells?_some (hF i (by omega)).1
   have hj:j<sz:=by rw [← h2]; exact (List.getElem?_eq_some_iff.1 hu).1
   have h4:=h3 j hj
   rw [add_none,add_none,hu] at h4
   exact reads_base h4
  ·have:=hB ((((List.range len).map D).length+((List.range (m - len)).map fun j=>D (len+j)).length)*P.bytesOf e) (by simp [DataW.weights,ht])
   refine Nat.le_trans (Nat.mul_le_mul_right _ ?_) this
   simp
  ·intro i x hx
   obtain ⟨hi,rfl⟩:=hat i x hx
   refine ⟨D i,Pl i,n,(hF i (by omega)).2,fun q hq=>hB q ?_⟩
   simp only [DataW.weights,ht]
   refine List.mem_cons_of_mem _ (List.mem_append_left _ (weightsAll_mem' (List.mem_map.2 ⟨i,List.mem_range.2 hi,rfl⟩) q hq))
end
end Sl
end Go.Proofs.YtpkealohodeifaaGreat
namespace Go.Proofs.YtpkealohodeifaaGreat.shIn
open Sl
open Go.ChangeShapes Go.WideShapes Go.ChangeAt Go.RowKit Go.Deep Go.Joins
set_option maxRecDepth 100000
theorem own :ownKnob Tryz.prog.godebug=none:=by kernel_rfl
theorem laidOut :laidOutB Tryz.prog=true:=by kernel_rfl
section
variable {H:Type} {enc:TypeId × Value→H} {w0:World}
theorem all2_of {α:Type} {R:α→List Value→Prop} {Q:α→Prop}:∀ {es:List (List Value)},(∀ (i:Nat) (x:List Value),es[i]?=some x→∃ q,R q x∧Q q)→∃ l:List α,All2 R l es∧∀ q∈l,Q q
 | [],_=>⟨[],trivial,by simp⟩
 | x::es,h=>by
  obtain ⟨q,hq,hQ⟩:=h 0 x rfl
  obtain ⟨l,hl,hQs⟩:=all2_of (es:=es) (R:=R) (Q:=Q) fun i y hy=>h (i+1) y (by simpa using hy)
  exact ⟨q::l,⟨hq,hl⟩,by simpa using ⟨hQ,hQs⟩⟩
theorem open_list {α:Type} [ρ:Rep α] (Q:α→Prop) {t e:TypeId} {B fuel:Nat} {v:Value} {d:DataW H} {p:List MemPlace} (ht:Tryz.prog.underlying t=some (.slice e)) (hsz:Tryz.prog.cellsOf e=ρ.size) (h0:0<ρ.size) (hb:Tryz.prog.bytesOf e=B)
  (hel:∀ (n:Nat) (x:List Value) (D:DataW H) (Pl:List MemPlace),DataW.trod enc Tryz.prog w0 0 (fun _=>true) true n e x=some (D,Pl)→(∀ m∈D.weights Tryz.prog e,m≤reachBytes)→∃ q,ρ.rd w0 0 q x∧Q q)
  (h:DataW.trod enc Tryz.prog w0 0 (fun _=>true) true fuel t [v]=some (d,p)) (hB:∀ n∈d.weights Tryz.prog t,n≤reachBytes) :
  ∃ l,RdL w0 0 v l∧l.length*B≤reachBytes∧∀ q∈l,Q q:=by
 obtain ⟨es,hr,hl,hi⟩:=open_rd ht hsz h0 h hB
 obtain ⟨l,ha,hq⟩:=all2_of (R:=ρ.rd w0 0) (Q:=Q) fun i x hx=>by
  obtain ⟨D,Pl,n,h1,h2⟩:=hi i x hx
  exact hel n x D Pl h1 h2
 rw [hb,ha.length] at hl
 exact ⟨l,⟨es,hr,ha⟩,hl,hq⟩
theorem open_bytes {fuel:Nat} {v:Value} {d:DataW H} {p:List MemPlace} (h:DataW.trod enc Tryz.prog w0 0 (fun _=>true) true fuel 22 [v]=some (d,p)) (hB:∀ n∈d.weights Tryz.prog 22,n≤reachBytes) :
  ∃ l:List Bt,RdL w0 0 v l∧l.length*1≤reachBytes:=by
 obtain ⟨l,h1,h2,_⟩:=open_list (α:=Bt) (B:=1) (fun _=>True) Tryz.underlying22 (show Tryz.prog.cellsOf 5=1 by kernel_rfl) (by decide) (by kernel_rfl) (fun n x D Pl hx _=>by
  obtain ⟨k,rfl,_,hwf⟩:=DataW.trod_int Tryz.underlying5 hx
  have hwf':0≤k∧k≤255:=by simpa [Lit.wf,IntKind.min,IntKind.max,IntKind.signed,IntKind.bits] using hwf
  refine ⟨⟨k.toNat,by omega⟩,?_,trivial⟩
  show [Value.int .u8 k]=[Value.int .u8 (k.toNat:Int)]
  rw [Int.toNat_of_nonneg hwf'.1]) h hB
 exact ⟨l,h1,h2⟩
end
end Go.Proofs.YtpkealohodeifaaGreat.shIn
namespace Go.Proofs.YtpkealohodeifaaGreat.shardBytes
open Sl shIn
open Go.ChangeShapes Go.WideShapes Go.ChangeAt Go.RowKit Go.Deep
theorem walk (w:World) (v0:Value) (l0:List Bt) (r0:RdL w 0 v0 l0) (b0:l0.length≤140737488355328) :
  Calls Tryz.prog 3 #[v0] w fun e w'=>e=.returned (.bool true)∧Below w.heap.size w w':=by
 have h:=shardBytes_spec w v0 l0 r0 b0 w 0 (by rw [hzero_add]; exact St.start w)
 refine h.mono ?_
 rintro e w' ⟨v,h',rfl,⟨rfl,rfl⟩,hst⟩
 exact ⟨rfl,hst.below⟩
set_option maxRecDepth 100000 in
theorem lifted (os:Os) (started:os.Started) (H:Type) (enc:TypeId × Value→H) :
  ReturnsInHanded {} Tryz.checked os 3 .any (Rows.shardBytesSpec.pre6 enc Tryz.prog Tryz.f3 Rows.shardBytesRow.domain false) (Rows.shardBytesSpec.post enc Tryz.prog Tryz.f3 false true false false):=by
 refine returnsInHanded_of_change_sized (C:=Tryz.checked) own started (by kernel_rfl) Tryz.func3
  (ChangeSpec.witness6 (enc:=enc) (C:=Tryz.checked) false ⟨#[],#[.slice none 0 0],[]⟩ 8 (by kernel_rfl) (by kernel_rfl) (by kernel_rfl) (by kernel_rfl)) ?_
 intro W base args ds gs before hval0 hW hcnd hsz0 _
 have hsz:(DataW.weightsEach Tryz.prog (Tryz.f3.params.toList++Rows.shardBytesSpec.plain.varTypes Tryz.prog) (ds++gs)).all (·≤reachBytes)=true:=hsz0
 clear hsz0
 have hval:∀ (j:Nat) t v,Tryz.f3.params[j]?=some t→args[j]?=some v→Value.okWide Tryz.prog W .any base t v:=hval0
 have hW':=hW
 obtain ⟨p,q,hA0,hV,rfl,hfz,hnd⟩:=hW
 have hA:DataW.TrodAll enc Tryz.prog W 0 (fun _=>true) true Tryz.f3.params.toList args.toList ds p:=hA0
 rw [Tryz.params3] at hA hval
 obtain ⟨v0,vs0,d0,ds0,p0,q0,hargs,rfl,rfl,h0,r0⟩:=trodAll_cons hA
 obtain ⟨rfl,rfl,rfl⟩:=trodAll_nil r0
 obtain rfl:args=#[v0]:=by cases args; simp_all
 obtain ⟨rfl,rfl⟩:=trodVars_none hV
 have k0:=h0
 have lt0:∀ x∈p0,x.block<W.heap.size:=by obtain ⟨m,hm⟩:=k0; exact DataW.trod_lt m _ _ _ hm
 obtain ⟨a0,len0,cap0,rfl⟩:=okWide_slice Tryz.underlying22 (hval 0 22 v0 rfl rfl)
 obtain ⟨l0,w0,z0⟩:∃ l:List Bt,RdL W 0 (.slice a0 len0 cap0) l∧l.length*1≤reachBytes:=by
  obtain ⟨fuel,hf⟩:=h0
  exact open_bytes hf (fun m hm=>by simpa using List.all_eq_true.1 hsz m (DataW.weights_mem_each (j:=0) (t:=22) G G m hm))
 clear hA0 hval0 hsz
 refine (walk W _ l0 w0 (by have:=reachBytes_lt; omega)).mono fun e W' ⟨he,bel⟩=>?_
 subst he
 exact ⟨_,rfl,_,_,_,[],_,[],hW',trodAll_mk1 (shut_bool Tryz.underlying4 _),(trodAll_cons_mk (Below.trod laidOut (by kernel_rfl) (of_decide_eq_true (by kernel_rfl)) k0 bel lt0) trodAll_mk0),rfl,bel.frame _,fun h=>by cases h⟩
theorem over :Rows.shardBytesRow.holds Tryz.pinned (OpenSpec.ofChange Rows.shardBytesSpec) :=
 OpenClaim.holds_of_wide 3 Tryz.f3 G G G G G G G ⟨rfl,rfl,rfl,rfl,rfl⟩ rfl G G G G (by kernel_rfl) Tryz.func3 (by kernel_rfl)
  (of_decide_eq_true (by kernel_rfl)) (by unfold Func.isWrapper; first|(rw [if_pos (by decide +kernel)]; kernel_rfl)|(rw [if_neg (by decide +kernel)]; exact ⟨rfl,rfl⟩))
  (fun os started H enc _=>lifted os started H enc)
theorem proved :Rows.ShardBytesSaid:=over
end Go.Proofs.YtpkealohodeifaaGreat.shardBytes
