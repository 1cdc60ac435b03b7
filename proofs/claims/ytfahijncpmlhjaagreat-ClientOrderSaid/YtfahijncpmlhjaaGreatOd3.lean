/-
  What clientOrder.proved hangs on, part 3 of 7: ClRp, ClRq, ClRs, ClB, ClC, ClD, NilF, ClE, Fl2, ClF, ClKt, ClMt, ClMu, ClMv, ClMw, ClKu, ClMx, ClMy, ClMz, Mp, Shelf, ClSo, ClMd, ClMe, ClPd, ClOa, ClAt, ClWa.
-/
import Derived.Test.YtfahijncpmlhjaaGreatOd2
import Derived.Test.YtfahijncpmlhjaaGreatOd1
import Derived.MapKept
import Derived.Shelf.Sort.Plain
import Derived.Ground.Names2Prog
import Derived.Shelf.Slices.CompactI
import Derived.Shelf.Slices.In.SortNone
import Derived.Test.YtfahijncpmlhjaaGreatProg
set_option linter.unusedVariables false
set_option linter.unusedSimpArgs false
namespace Go.Proofs.YtfahijncpmlhjaaGreat
open Go Go.RowKit
namespace Sl
set_option maxHeartbeats 16000000
set_option maxRecDepth 4000
set_option synthInstance.maxHeartbeats 400000
set_option synthInstance.maxSize 100000
attribute [local irreducible] Hold HoldL HoldW
def rngAt (l:List Rng) (i:Int):Rng:=l.getD i.toNat ⟨0,0,0,0⟩
def plannedF (l:List Rng) (ep me xf xt xl xh:Int):Int :=
 if 0<me then 11 else if idxF (isG xf) l<0 then 6 else
 if xh≤xl∨xl<(rngAt l (idxF (isG xf) l)).lo∨(rngAt l (idxF (isG xf) l)).hi<xh∨((rngAt l (idxF (isG xf) l)).lo<xl∧xh<(rngAt l (idxF (isG xf) l)).hi) then 3 else
 if xt<1∨4<xt∨xt=xf then 27 else
 if 0≤idxF (isG xt) l∧(rngAt l (idxF (isG xt) l)).hi≠xl∧(rngAt l (idxF (isG xt) l)).lo≠xh then 15 else if 1099511627776≤ep then 17 else 0
theorem zcJ {G G' : Prop} (h : G') (f : Zh G'→G:=by intro h; (repeat (first|refine yH M M M M M ?_|refine yD M M M M (zZ M M M) ?_|refine W_load M M M M (yE M) (zG M (zS M)) ?_|refine W_idx M M M (by omega) M M M ?_|refine W_atf M M (by assumption) M M M M M ?_)); exact h.o) : G:=f ⟨h⟩
theorem zaQ {G G' : Prop} (h : G') (f : Zh G'→G:=by intro h; (repeat (first|refine yI ?_|refine yH M M M M M ?_|refine W_skip M M M M ?_)); exact h.o) : G:=f ⟨h⟩
theorem zdK {G G' : Prop} (h : G') (f : Zh G'→G:=by intro h; (repeat (first|refine zB ?_|refine zE ?_|refine zK M M M ?_|refine zY M M M M M ?_|refine L_ld M M M M M ?_|refine zI M ?_)); exact h.o) : G:=f ⟨h⟩
theorem zeE {G G' : Prop} (h : G') (f : Zh G'→G:=by intro h; (repeat (first|refine zF ?_|refine zB ?_|refine zE ?_|refine zK M M M ?_|refine zY M M M M M ?_|refine L_ld M M M M M ?_|refine L_skip M M ?_|refine zI M ?_)); exact h.o) : G:=f ⟨h⟩
theorem zcK {G G' : Prop} (h : G') (f : Zh G'→G:=by intro h; (repeat (first|refine zF ?_|refine zB ?_|refine zY M M M M M ?_|refine L_ld M M M M M ?_|refine zI M ?_)); exact h.o) : G:=f ⟨h⟩
theorem zcC {G G' : Prop} (h : G') (f : Zh G'→G:=by intro h; (repeat (first|refine zF ?_|refine zE ?_|refine zK M M M ?_|refine zI M ?_)); exact h.o) : G:=f ⟨h⟩
theorem planned_spec (w0:World) (X:Hp) (l:List Rng) (a:Option Addr) (c:Nat) (ep me m3 m4 m5 m6 xe xf xt xl xh:Int) (hv:RdL w0 X (.slice a l.length c) l) (hl:l.length≤1000000000) :
  Spec Tryz.prog w0 220 [.agg [.slice a l.length c,.int .i64 ep,.int .i64 me,.int .i64 m3,.int .i64 m4,.int .i64 m5,.int .i64 m6].toArray,.agg [.int .i64 xe,.int .i64 xf,.int .i64 xt,.int .i64 xl,.int .i64 xh].toArray] X
   (fun v h'=>v=.int .i64 (plannedF l ep me xf xt xl xh)∧X=h'):=by
 refine zN Tryz.func220 M Tryz.ntmps220 Tryz.results220 M fun fr=>?_
 repeat (first|refine zF ?_|refine zB ?_|refine zE ?_|refine zK M M M ?_|refine L_box M (c:=[_,_,_,_,_]) M M M (fun _=>?_)|refine L_box M (c:=[_,_,_,_,_,_,_]) M M M (fun _=>?_))
 rename_i b2 b3
 refine yB [3,7] [0,1,2,4,5,6,3,7,8,9] (by kernel_rfl) M (by kernel_rfl) (by kernel_rfl) ?_
 repeat (first|refine yD M M M M (zZ M M M) ?_|refine W_load M M M M (yE M) (zG M (zS M)) ?_|refine W_load M M M M (yE M) (zL (vs:=[_,_,_,_,_,_,_]) M M M) ?_)
 refine W_call M M M M (zQ M M M) (of_spec w0 X l a c ep me m3 m4 m5 m6 xf hv hl) (Kept.all _) ?_
 rintro _ _ ⟨rfl,rfl⟩
 refine ⟨zka,?_⟩
 skip
 refine W_call M M M M (zQ M M M) (of_spec w0 X l a c ep me m3 m4 m5 m6 xt hv hl) (Kept.all _) ?_
 rintro _ _ ⟨rfl,rfl⟩
 refine ⟨zka,?_⟩
 refine zaD ?_
 repeat (first|refine zF ?_|refine zR ?_|refine zB ?_|refine zY M M M M M ?_|refine L_ld M M M M M ?_)
 have hF:plannedF l ep me xf xt xl xh=plannedF l ep me xf xt xl xh:=rfl
 conv at hF=>rhs; unfold plannedF
 refine yF M M (pv_gtr M M) (fun n1=>?_) (fun n1=>?_)
 ·rw [if_pos n1] at hF
  rw [hF]
  refine zaB ?_
  exact ⟨[_],X,_,⟨rfl,trivial⟩,⟨rfl,rfl⟩,yJ.out⟩
 rw [if_neg n1] at hF
 refine zaA ?_
 refine yF M M (pv_lss M M) (fun n2=>?_) (fun n2=>?_)
 ·rw [if_pos n2] at hF
  rw [hF]
  refine zaB ?_
  exact ⟨[_],X,_,⟨rfl,trivial⟩,⟨rfl,rfl⟩,yJ.out⟩
 rw [if_neg n2] at hF
 rcases idxF_cases (isG xf) l with ⟨g1,g2⟩|⟨k,hk,g1,g2,g3⟩
 ·omega
 have hr:rngAt l (k:Int)=l[k]:=by unfold rngAt; rw [Int.toNat_natCast]; simp [hk]
 rw [g1,hr] at hF
 rw [g1]
 obtain ⟨b5,o5,hae,e,hre,hat⟩:=hv.at hk
 obtain rfl:e=[.int .i64 l[k].lo,.int .i64 l[k].hi,.int .i64 l[k].group,.int .i64 l[k].epoch]:=hre
 generalize hto:idxF (isG xt) l=to at hF
 generalize hrk:l[k]=f at hF hat
 clear g2 g3 hr n1 n2
 subst hae
 have hto2:0≤to→∃ (k2:Nat) (hk2:k2<l.length),to=k2∧rngAt l (k2:Int)=l[k2]∧At w0 X b5 (o5+k2*4) [.int .i64 l[k2].lo,.int .i64 l[k2].hi,.int .i64 l[k2].group,.int .i64 l[k2].epoch]:=fun h=>by
  rcases idxF_cases (isG xt) l with ⟨q1,q2⟩|⟨k2,hk2,q1,q2,q3⟩
  ·omega
  ·obtain ⟨b6,o6,hae6,e6,hre6,hat6⟩:=hv.at hk2
   cases hae6
   obtain rfl:e6=[.int .i64 l[k2].lo,.int .i64 l[k2].hi,.int .i64 l[k2].group,.int .i64 l[k2].epoch]:=hre6
   exact ⟨k2,hk2,by omega,by unfold rngAt; rw [Int.toNat_natCast]; simp [hk2],hat6⟩
 repeat (first|refine zF ?_|refine zR ?_|refine zB ?_|refine zE ?_|refine zK M M M ?_|refine zY M M M M M ?_|refine L_ld M M M M M ?_|refine zP ?_|refine zI M ?_|refine L_idx M M (by omega) M M ?_|refine L_atA M (by assumption) M M M M ?_|refine L_stA M (vs:=[_,_,_,_]) M M M M (c':=[_,_,_,_]) M M ?_|refine L_alloc (c:=[_,_,_,_]) M M M (fun _=>?_))
 refine yF M M (pv_geq M M) (fun x1=>?_) (fun x1=>?_)
 ·rw [if_pos (.inl x1)] at hF
  refine zbD ?_
  exact ⟨[_],X,_,⟨rfl,trivial⟩,⟨by rw [hF]; rfl,rfl⟩,yJ.out⟩
 refine zbG ?_
 refine yF M M (pv_lss M M) (fun x2=>?_) (fun x2=>?_)
 ·rw [if_pos (.inr (.inl x2))] at hF
  refine zbD ?_
  exact ⟨[_],X,_,⟨rfl,trivial⟩,⟨by rw [hF]; rfl,rfl⟩,yJ.out⟩
 refine zbG ?_
 refine yF M M (pv_gtr M M) (fun x3=>?_) (fun x3=>?_)
 ·rw [if_pos (.inr (.inr (.inl x3)))] at hF
  refine zbD ?_
  exact ⟨[_],X,_,⟨rfl,trivial⟩,⟨by rw [hF]; rfl,rfl⟩,yJ.out⟩
 refine zdK ?_
 refine yF M M (pv_gtr M M) (fun x4=>?_) (fun x4=>?_)
 ·refine zaO ?_
  refine yF M M (pv_lss M M) (fun x5=>?_) (fun x5=>?_)
  ·rw [if_pos (.inr (.inr (.inr ⟨x4,x5⟩)))] at hF
   refine zaB ?_
   exact ⟨[_],X,_,⟨rfl,trivial⟩,⟨by rw [hF]; rfl,rfl⟩,yJ.out⟩
  ·rw [if_neg (fun h=>h.elim x1 (fun h=>h.elim x2 (fun h=>h.elim x3 (fun h=>x5 h.2))))] at hF
   refine zbG ?_
   refine yF M M (pv_lss M M) (fun y1=>?_) (fun y1=>?_)
   ·rw [if_pos (.inl y1)] at hF
    refine zbD ?_
    exact ⟨[_],X,_,⟨rfl,trivial⟩,⟨by rw [hF]; rfl,rfl⟩,yJ.out⟩
   refine zbG ?_
   refine yF M M (pv_gtr M M) (fun y2=>?_) (fun y2=>?_)
   ·rw [if_pos (.inr (.inl y2))] at hF
    refine zbD ?_
    exact ⟨[_],X,_,⟨rfl,trivial⟩,⟨by rw [hF]; rfl,rfl⟩,yJ.out⟩
   refine zdK ?_
   refine yF M M (pv_eql M M) (fun y3=>?_) (fun y3=>?_)
   ·rw [if_pos (.inr (.inr y3))] at hF
    refine zaB ?_
    exact ⟨[_],X,_,⟨rfl,trivial⟩,⟨by rw [hF]; rfl,rfl⟩,yJ.out⟩
   refine zcC ?_
   rw [if_neg (fun h=>h.elim y1 (fun h=>h.elim y2 y3))] at hF
   refine yB [] [0,1,2,3,4,5,6,7,8,9,10,11,12,13,14,15,16,17,18,19,20,21,22,23,24] (by kernel_rfl) M (by kernel_rfl) (by kernel_rfl) ?_
   repeat (refine yH M M M M M ?_)
   refine W_dec M M M M (pv_geq M M) (fun u1=>?_) (fun u1=>?_)
   ·obtain ⟨k2,hk2,e2,hr2,hat2⟩:=hto2 u1
    rw [e2,hr2] at hF
    rw [e2]
    refine zcJ ?_
    refine W_dec M M M M (pv_neq M M) (fun u2=>?_) (fun u2=>?_)
    ·refine zcJ ?_
     refine W_dec M M M M (pv_neq M M) (fun u3=>?_) (fun u3=>?_)
     ·rw [if_pos ⟨by omega,u2,u3⟩] at hF
      refine zaD ?_
      refine zaB ?_
      exact ⟨[_],X,_,⟨rfl,trivial⟩,⟨by rw [hF]; rfl,rfl⟩,yJ.out⟩
     ·rw [if_neg (fun h=>u3 h.2.2)] at hF
      refine zaD ?_
      refine zcK ?_
      refine yF M M (pv_geq M M) (fun z1=>?_) (fun z1=>?_)
      ·rw [if_pos z1] at hF
       refine zaB ?_
       exact ⟨[_],X,_,⟨rfl,trivial⟩,⟨by rw [hF]; rfl,rfl⟩,yJ.out⟩
      ·rw [if_neg z1] at hF
       refine zbC ?_
       exact ⟨[_],X,_,⟨rfl,trivial⟩,⟨by rw [hF]; rfl,rfl⟩,yJ.out⟩
    ·rw [if_neg (fun h=>u2 h.2.1)] at hF
     refine zaQ ?_
     refine zcK ?_
     refine yF M M (pv_geq M M) (fun z1=>?_) (fun z1=>?_)
     ·rw [if_pos z1] at hF
      refine zaB ?_
      exact ⟨[_],X,_,⟨rfl,trivial⟩,⟨by rw [hF]; rfl,rfl⟩,yJ.out⟩
     ·rw [if_neg z1] at hF
      refine zbC ?_
      exact ⟨[_],X,_,⟨rfl,trivial⟩,⟨by rw [hF]; rfl,rfl⟩,yJ.out⟩
   ·rw [if_neg (fun h=>u1 h.1)] at hF
    refine zaQ ?_
    refine zcK ?_
    refine yF M M (pv_geq M M) (fun z1=>?_) (fun z1=>?_)
    ·rw [if_pos z1] at hF
     refine zaB ?_
     exact ⟨[_],X,_,⟨rfl,trivial⟩,⟨by rw [hF]; rfl,rfl⟩,yJ.out⟩
    ·rw [if_neg z1] at hF
     refine zbC ?_
     exact ⟨[_],X,_,⟨rfl,trivial⟩,⟨by rw [hF]; rfl,rfl⟩,yJ.out⟩
 ·rw [if_neg (fun h=>h.elim x1 (fun h=>h.elim x2 (fun h=>h.elim x3 (fun h=>x4 h.1))))] at hF
  refine zeE ?_
  refine yF M M (pv_lss M M) (fun y1=>?_) (fun y1=>?_)
  ·rw [if_pos (.inl y1)] at hF
   refine zbD ?_
   exact ⟨[_],X,_,⟨rfl,trivial⟩,⟨by rw [hF]; rfl,rfl⟩,yJ.out⟩
  refine zbG ?_
  refine yF M M (pv_gtr M M) (fun y2=>?_) (fun y2=>?_)
  ·rw [if_pos (.inr (.inl y2))] at hF
   refine zbD ?_
   exact ⟨[_],X,_,⟨rfl,trivial⟩,⟨by rw [hF]; rfl,rfl⟩,yJ.out⟩
  refine zdK ?_
  refine yF M M (pv_eql M M) (fun y3=>?_) (fun y3=>?_)
  ·rw [if_pos (.inr (.inr y3))] at hF
   refine zaB ?_
   exact ⟨[_],X,_,⟨rfl,trivial⟩,⟨by rw [hF]; rfl,rfl⟩,yJ.out⟩
  refine zcC ?_
  rw [if_neg (fun h=>h.elim y1 (fun h=>h.elim y2 y3))] at hF
  refine yB [] [0,1,2,3,4,5,6,7,8,9,10,11,12,13,14,15,16,17,18,19,20,21,22,23,24] (by kernel_rfl) M (by kernel_rfl) (by kernel_rfl) ?_
  repeat (refine yH M M M M M ?_)
  refine W_dec M M M M (pv_geq M M) (fun u1=>?_) (fun u1=>?_)
  ·obtain ⟨k2,hk2,e2,hr2,hat2⟩:=hto2 u1
   rw [e2,hr2] at hF
   rw [e2]
   refine zcJ ?_
   refine W_dec M M M M (pv_neq M M) (fun u2=>?_) (fun u2=>?_)
   ·refine zcJ ?_
    refine W_dec M M M M (pv_neq M M) (fun u3=>?_) (fun u3=>?_)
    ·rw [if_pos ⟨by omega,u2,u3⟩] at hF
     refine zaD ?_
     refine zaB ?_
     exact ⟨[_],X,_,⟨rfl,trivial⟩,⟨by rw [hF]; rfl,rfl⟩,yJ.out⟩
    ·rw [if_neg (fun h=>u3 h.2.2)] at hF
     refine zaD ?_
     refine zcK ?_
     refine yF M M (pv_geq M M) (fun z1=>?_) (fun z1=>?_)
     ·rw [if_pos z1] at hF
      refine zaB ?_
      exact ⟨[_],X,_,⟨rfl,trivial⟩,⟨by rw [hF]; rfl,rfl⟩,yJ.out⟩
     ·rw [if_neg z1] at hF
      refine zbC ?_
      exact ⟨[_],X,_,⟨rfl,trivial⟩,⟨by rw [hF]; rfl,rfl⟩,yJ.out⟩
   ·rw [if_neg (fun h=>u2 h.2.1)] at hF
    refine zaQ ?_
    refine zcK ?_
    refine yF M M (pv_geq M M) (fun z1=>?_) (fun z1=>?_)
    ·rw [if_pos z1] at hF
     refine zaB ?_
     exact ⟨[_],X,_,⟨rfl,trivial⟩,⟨by rw [hF]; rfl,rfl⟩,yJ.out⟩
    ·rw [if_neg z1] at hF
     refine zbC ?_
     exact ⟨[_],X,_,⟨rfl,trivial⟩,⟨by rw [hF]; rfl,rfl⟩,yJ.out⟩
  ·rw [if_neg (fun h=>u1 h.1)] at hF
   refine zaQ ?_
   refine zcK ?_
   refine yF M M (pv_geq M M) (fun z1=>?_) (fun z1=>?_)
   ·rw [if_pos z1] at hF
    refine zaB ?_
    exact ⟨[_],X,_,⟨rfl,trivial⟩,⟨by rw [hF]; rfl,rfl⟩,yJ.out⟩
   ·rw [if_neg z1] at hF
    refine zbC ?_
    exact ⟨[_],X,_,⟨rfl,trivial⟩,⟨by rw [hF]; rfl,rfl⟩,yJ.out⟩
theorem cloneRng_spec (w0:World) (X:Hp) (v:Value) (xs:List Rng) (hv:RdL w0 X v xs) (hl:xs.length≤1000000000000) :
  Spec Tryz.prog w0 69 [v] X (fun r h'=>∃ h,OwL w0 X xs r h∧X+h=h'):=by
 obtain ⟨es,h1,h2⟩:=id hv
 obtain ⟨a,c,rfl⟩:=hv.shape
 refine zN Tryz.func69 M Tryz.ntmps69 Tryz.results69 M fun fr=>?_
 refine zaC ?_
 refine L_bool M M (pv_slice_isnil M M) (fun h3=>?_) (fun h3=>?_)
 ·obtain rfl:xs=[]:=by
   cases xs with
   | nil=>rfl
   | cons x l =>
    obtain ⟨b,o,rfl,_⟩:=hv.at (i:=0) (by simp)
    simp at h3
  refine zaB ?_
  exact ⟨[_],X,_,⟨rfl,trivial⟩,⟨0,OwL.nil _ none,yA _⟩,yJ.out⟩
 ·repeat (first|refine zF ?_|refine zB ?_|refine zE ?_|refine zK M M M ?_|refine zP ?_|refine zI M ?_|refine L_bs (vs:=[]) (cells:=[]) M M M M M M (fun _=>?_))
  refine L_eff M M (ev_appendL (xs:=([]:List Rng)) (h:=0) M M (OwL.nil X _) (h1.frame) h2 M M M M M (by simp; omega)) ?_
  rintro v' _ ⟨h',hr',rfl⟩
  refine zaE ?_
  exact ⟨[_],X+h',_,⟨rfl,trivial⟩,⟨h',hr',rfl⟩,yJ.out⟩
theorem planned_ep {l:List Rng} {ep me xf xt xl xh:Int} (h:plannedF l ep me xf xt xl xh=0):ep<1099511627776:=by
 unfold plannedF at h
 by_cases h1:0<me
 ·rw [if_pos h1] at h; cases h
 rw [if_neg h1] at h
 by_cases h2:idxF (isG xf) l<0
 ·rw [if_pos h2] at h; cases h
 rw [if_neg h2] at h
 split at h
 ·cases h
 split at h
 ·cases h
 split at h
 ·cases h
 split at h
 ·cases h
 ·omega
theorem zeF {G G' : Prop} (h : G') (f : Zh G'→G:=by intro h; (repeat (first|refine zF ?_|refine zB ?_|refine zE ?_|refine zK M M M ?_|refine zM ?_|refine zJ M ?_|refine L_build (vs:=[]) (cells:=[_,_,_,_,_,_,_]) M M M M ?_|refine L_stA M (vs:=[_,_,_,_,_,_,_]) M M M M (c':=[_,_,_,_,_,_,_]) M M ?_)); exact h.o) : G:=f ⟨h⟩
theorem plan_spec (w0:World) (X:Hp) (l:List Rng) (a:Option Addr) (c:Nat) (ep me m3 m4 m5 m6 xe xf xt xl xh:Int) (hv:RdL w0 X (.slice a l.length c) l) (hl:l.length≤1000000000) (hep:-9223372036854775808≤ep) :
  Spec Tryz.prog w0 135 [.agg [.slice a l.length c,.int .i64 ep,.int .i64 me,.int .i64 m3,.int .i64 m4,.int .i64 m5,.int .i64 m6].toArray,.agg [.int .i64 xe,.int .i64 xf,.int .i64 xt,.int .i64 xl,.int .i64 xh].toArray] X
   (fun v h'=>(plannedF l ep me xf xt xl xh≠0∧v=.tuple #[.agg [.slice none 0 0,.int .i64 0,.int .i64 0,.int .i64 0,.int .i64 0,.int .i64 0,.int .i64 0].toArray,.int .i64 (plannedF l ep me xf xt xl xh)]∧X=h') ∨
    (plannedF l ep me xf xt xl xh=0∧∃ u h,v=.tuple #[.agg [u,.int .i64 (ep+1),.int .i64 (ep+1),.int .i64 xf,.int .i64 xt,.int .i64 xl,.int .i64 xh].toArray,.int .i64 0]∧OwL w0 X l u h∧X+h=h')):=by
 refine zN Tryz.func135 M Tryz.ntmps135 Tryz.results135 M fun fr=>?_
 repeat (first|refine zF ?_|refine zB ?_|refine zE ?_|refine zK M M M ?_|refine L_ldA M (vs:=[_,_,_,_,_]) M M M M M ?_|refine L_ldA M (vs:=[_,_,_,_,_,_,_]) M M M M M ?_|refine L_box M (c:=[_,_,_,_,_]) M M M (fun _=>?_)|refine L_box M (c:=[_,_,_,_,_,_,_]) M M M (fun _=>?_)|refine L_alloc (c:=[_,_,_,_,_,_,_]) M M M (fun _=>?_))
 rename_i b2 b3 b4
 refine zX M M (zQ M M M) (planned_spec w0 X l a c ep me m3 m4 m5 m6 xe xf xt xl xh hv hl) ?_
 rintro _ _ ⟨rfl,rfl⟩
 refine zaC ?_
 refine yF M M (pv_neq M M) (fun n1=>?_) (fun n1=>?_)
 ·refine zeF ?_
  exact ⟨[_,_],X,_,⟨⟨_,rfl,zL (vs:=[_,_,_,_,_,_,_]) M M M⟩,rfl,trivial⟩,.inl ⟨n1,rfl,rfl⟩,yJ.out⟩
 have h0:plannedF l ep me xf xt xl xh=0:=Decidable.not_not.1 n1
 have hlt:=planned_ep h0
 rw [h0]
 repeat (first|refine zF ?_|refine zB ?_|refine zE ?_|refine zY M M M M M ?_|refine L_ld M M M M M ?_|refine zP ?_|refine zI M ?_)
 refine zX M M (zQ M M M) (cloneRng_spec w0 X _ l hv (by omega)) ?_
 rintro v5 _ ⟨h5,ho5,rfl⟩
 obtain ⟨a5,c5,rfl⟩:=ho5.shape
 repeat (first|refine zF ?_|refine zB ?_|refine zE ?_|refine zK M M M ?_|refine zY M M M M M ?_|refine L_ld M M M M M ?_|refine zM ?_|refine L_add M M (by omega) (by omega) M M ?_|refine L_st M M M (c':=[_,_,_,_,_]) M M M M ?_|refine L_st M M M (c':=[_,_,_,_,_,_,_]) M M M M ?_|refine L_ldA M (vs:=[_,_,_,_,_]) M M M M M ?_|refine L_ldA M (vs:=[_,_,_,_,_,_,_]) M M M M M ?_|refine L_stA M (vs:=[_,_,_,_,_]) M M M M (c':=[_,_,_,_,_,_,_]) M M ?_|refine L_stA M (vs:=[_,_,_,_,_,_,_]) M M M M (c':=[_,_,_,_,_,_,_]) M M ?_)
 exact ⟨[_,_],X+h5,_,⟨⟨_,rfl,zL (vs:=[_,_,_,_,_,_,_]) M M M⟩,rfl,trivial⟩,.inr ⟨rfl,_,h5,rfl,ho5,rfl⟩,yJ.out⟩
def getRes (b:List Bt):Res × Int:=if endV (blobS (intS ⟨b,false⟩))≠0 then (⟨0,[]⟩,endV (blobS (intS ⟨b,false⟩))) else (⟨intV ⟨b,false⟩,blobV (intS ⟨b,false⟩)⟩,0)
theorem getRes_spec (w0:World) (X:Hp) (v:Value) (b:List Bt) (hv:RdL w0 X v b) (hl:b.length≤1000000000) :
  Spec Tryz.prog w0 111 [v] X (fun r h'=>∃ (a:Option Addr) (c:Nat) (G:Hp),r=.tuple #[.agg [.int .i64 (getRes b).1.code,.slice a (getRes b).1.data.length c].toArray,.int .i64 (getRes b).2] ∧
   RdL w0 G (.slice a (getRes b).1.data.length c) (getRes b).1.data∧X+G=h'):=by
 have hrd:=read02_spec w0 X v b hv (by omega)
 obtain ⟨av,cv,rfl⟩:=hv.shape
 have hF:getRes b=if endV (blobS (intS ⟨b,false⟩))≠0 then (⟨0,[]⟩,endV (blobS (intS ⟨b,false⟩))) else (⟨intV ⟨b,false⟩,blobV (intS ⟨b,false⟩)⟩,0):=rfl
 refine zN Tryz.func111 M Tryz.ntmps111 Tryz.results111 M fun fr=>?_
 repeat (first|refine zF ?_|refine zB ?_|refine zE ?_|refine zK M M M ?_|refine L_alloc (c:=[_,_]) M M M (fun _=>?_))
 rename_i b2
 refine zX M M (zQ M M M) hrd ?_
 rintro _ _ ⟨br,D,h2,rfl,hr2,rfl⟩
 have e1:(intS ⟨b,false⟩).left.length≤b.length:=takeS_len ⟨b,false⟩ 8
 refine zaC ?_
 refine zX M M (zQ M M M) (getInt_spec w0 D br _ h2 hr2 (by simp only; omega)) ?_
 rintro _ _ ⟨h3,rfl,hr3,rfl⟩
 repeat (refine zK M M M ?_)
 refine zX M M (zQ M M M) (getBlob_spec w0 D br _ h3 hr3 (by omega)) ?_
 rintro _ _ ⟨a,c,h4,rfl,hd,hr4,rfl⟩
 repeat (first|refine zF ?_|refine zB ?_|refine zE ?_|refine zK M M M ?_|refine L_build (vs:=[_,_]) (cells:=[_,_]) M M M M ?_|refine L_stA M (vs:=[_,_]) M M M M (c':=[_,_]) M M ?_|refine L_alloc (c:=[_,_]) M M M (fun _=>?_))
 refine zX M M (zQ M M M) (end02_spec w0 D br _ h4 hr4) ?_
 rintro _ _ ⟨rfl,rfl⟩
 refine zaC ?_
 refine yF M M (pv_neq M M) (fun n1=>?_) (fun n1=>?_)
 ·rw [if_pos n1] at hF
  repeat (first|refine zF ?_|refine zB ?_|refine zE ?_|refine zK M M M ?_|refine zM ?_|refine zJ M ?_|refine L_build (vs:=[]) (cells:=[_,_]) M M M M ?_|refine L_stA M (vs:=[_,_]) M M M M (c':=[_,_]) M M ?_)
  have hpost:∃ (a:Option Addr) (c:Nat) (G:Hp),Value.tuple #[.agg [.int .i64 0,.slice none 0 0].toArray,.int .i64 (endV (blobS (intS ⟨b,false⟩)))]=.tuple #[.agg [.int .i64 (getRes b).1.code,.slice a (getRes b).1.data.length c].toArray,.int .i64 (getRes b).2] ∧
    RdL w0 G (.slice a (getRes b).1.data.length c) (getRes b).1.data∧X+G=X:=by
   rw [hF]; exact ⟨none,0,0,rfl,RdL.nil _ _ _,yA _⟩
  exact ⟨[_,_],X,_,⟨⟨_,rfl,zL (vs:=[_,_]) M M M⟩,rfl,trivial⟩,hpost,yJ.out⟩
 ·rw [if_neg n1] at hF
  repeat (first|refine zF ?_|refine zB ?_|refine zE ?_|refine zK M M M ?_|refine zP ?_|refine zM ?_|refine zI M ?_|refine L_ldA M (vs:=[_,_]) M M M M M ?_|refine L_stA M (vs:=[_,_]) M M M M (c':=[_,_]) M M ?_)
  have hpost:∃ (a2:Option Addr) (c2:Nat) (G:Hp),Value.tuple #[.agg [.int .i64 (intV ⟨b,false⟩),.slice a (blobV (intS ⟨b,false⟩)).length c].toArray,.int .i64 0]=.tuple #[.agg [.int .i64 (getRes b).1.code,.slice a2 (getRes b).1.data.length c2].toArray,.int .i64 (getRes b).2] ∧
    RdL w0 G (.slice a2 (getRes b).1.data.length c2) (getRes b).1.data∧X+G=X+D:=by
   rw [hF]; exact ⟨a,c,D,rfl,hd,rfl⟩
  exact ⟨[_,_],X+D,_,⟨⟨_,rfl,zL (vs:=[_,_]) M M M⟩,rfl,trivial⟩,hpost,yJ.out⟩
set_option maxHeartbeats 4000000
abbrev cliC (b:Nat) (c:List Value):Hp:=pt b (.cells c.toArray 95 (0,0))
abbrev txnC (b:Nat) (c:List Value):Hp:=pt b (.cells c.toArray 117 (0,0))
theorem foundAt_cmp (ws:List Wr) (n:Int) (i:Nat):foundAt (fun x:Wr=>cmpI x.block n) ws i=foundAt (fun x:Wr=>x.block - n) ws i:=by
 unfold foundAt
 split
 ·exact decide_eq_decide.2 (by rw [cmp_zero])
 ·rfl
theorem flat_setW {es:List (List Value)} {e spare:List Value} {i:Nat} (hl:∀ x∈es,x.length=2) (he:e.length=2) (hi:i<es.length):spliceL (0+i*2) e (es.flatten++spare)=(es.set i e).flatten++spare:=by
 have h0:es.take i++es[i]::es.drop (i+1)=es:=by simp
 have:=splice_row (fs:=es.take i) (rs:=es.drop (i+1)) (r0:=es[i]) (e:=e) (spare:=spare) (size:=2) (fun x hx=>hl x (List.mem_of_mem_take hx)) (hl _ (List.getElem_mem hi)) he
 rw [List.length_take,Nat.min_eq_left (by omega),h0] at this
 rw [this,List.set_eq_take_append_cons_drop,if_pos hi]
 simp
theorem bsAt_cmp {ws:List Wr} {n:Int} {i:Nat} (h:BsAt (fun x:Wr=>decide (cmpI x.block n<0)) ws i):BsAt (fun x:Wr=>decide (x.block - n<0)) ws i:=by
 simpa only [cmp_neg] using h
section
variable (w0:World) (X h:Hp) (b t:Nat) (x0 x1 x2 x3 x4 x5 x6 x7 x8 x9 x10 x11 x12 x13 x14 x15 x16 x17 x18 x19 x20 x21 x22 bz kd si ow wt co ab st i0 i1 i3 i5 i6 i7:Value) (ws:List Wr) (wv:Value) (n:Int) (d:List Bt) (da:Option Addr) (dc:Nat)
theorem search_spec (hv:RdL w0 X wv ws) (h8:ws.length≤8) (hs:RisesW ws) :
  Spec Tryz.prog w0 149 [wv,.int .i64 n,.func (.func 150) #[] #[]] X
   (fun r h'=>∃ i:Nat,r=.tuple #[.int .i64 (i:Int),.bool (foundAt (fun x:Wr=>x.block - n) ws i)]∧BsAt (fun x:Wr=>decide (x.block - n<0)) ws i∧X=h'):=by
 have:=binarySearchFuncWr_spec w0 X wv (.int .i64 n) ws 150 [] (fun x=>cmpI x.block n) hv (by omega) (fun Y x e hx he=>Spec.frameL (hzero_add X).symm (write1_spec w0 e x Y he n))
 refine this.mono ?_
 rintro r h' ⟨i,rfl,h1,rfl⟩
 exact ⟨i,by rw [foundAt_cmp],bsAt_cmp h1,rfl⟩
end
end Sl
end Go.Proofs.YtfahijncpmlhjaaGreat
namespace Go.Proofs.YtfahijncpmlhjaaGreat
open Go Go.RowKit
namespace Sl
section
variable {P:Program} {g:Env}
theorem run_eqf {t:TypeId} {ps rs:Array TypeId} {vr:Bool} (h:P.underlying t=some (.func ps rs vr)) (d:Nat) (w:World) {v:Value} {r:Bool} (hv:(v=.nilFunc∧r=true)∨((∃ a b c,v=.func a b c)∧r=false)):(Op.equalIn (d+1) t v .nilFunc).run P w=.ok r w:=by
 rcases hv with ⟨rfl,rfl⟩|⟨⟨a',b',c',rfl⟩,rfl⟩<;>simp [Op.equalIn,run_underlying h]
theorem run_eqlf {t:TypeId} {ps rs:Array TypeId} {vr:Bool} (h:P.underlying t=some (.func ps rs vr)) (w:World) {v:Value} {r:Bool} (hv:(v=.nilFunc∧r=true)∨((∃ a b c,v=.func a b c)∧r=false)):(binOp .eql t v .nilFunc).run P w=.ok (.bool r) w:=by
 have h1:(Op.equal t v .nilFunc).run P w=.ok r w:=run_eqf h 9999 w hv
 rcases hv with ⟨rfl,rfl⟩|⟨⟨a',b',c',rfl⟩,rfl⟩<;>(simp only [binOp]; simp [h1])
theorem pv_eql_nilfunc {t ty:TypeId} {ps rs:Array TypeId} {vr:Bool} [hu:Und P t (.func ps rs vr)] {x y:Operand} {v:Value} {r:Bool} (hx:ev g x=some v) (hy:ev g y=some .nilFunc)
  (hv:(v=.nilFunc∧r=true)∨((∃ a b c,v=.func a b c)∧r=false)):PV P g (.binOp .eql t x y ty) (.bool r):=by
 intro o a w m ho ha; unfold execOp
 have h2:=run_eqlf (w:=w) hu.out hv
 have h3:(eqGuard .eql t x y v .nilFunc).run P w=.ok () w:=by
  rcases hv with ⟨rfl,rfl⟩|⟨⟨a',b',c',rfl⟩,rfl⟩<;>(unfold eqGuard; split<;>simp_all)
 simp only [ho,ha.ev hx,ha.ev hy,Sem.run_bind,h3,Result.andThen_ok,h2,Sem.run_pure]
end
set_option maxHeartbeats 4000000
set_option maxRecDepth 4000
set_option synthInstance.maxHeartbeats 400000
set_option synthInstance.maxSize 100000
attribute [local irreducible] Hold HoldL HoldW
end Sl
end Go.Proofs.YtfahijncpmlhjaaGreat
namespace Go.Proofs.YtfahijncpmlhjaaGreat
open Go Go.RowKit
namespace Sl
set_option maxHeartbeats 16000000
set_option maxRecDepth 4000
set_option synthInstance.maxHeartbeats 400000
set_option synthInstance.maxSize 100000
attribute [local irreducible] Hold HoldL HoldW
theorem take_more {α:Type} {xs ys:List α} {k:Nat} (hx:k<xs.length) (hy:k<ys.length) (h:xs.take k=ys.take k) (e:xs[k]=ys[k]):xs.take (k+1)=ys.take (k+1):=by
 rw [List.take_succ_eq_append_getElem hx,List.take_succ_eq_append_getElem hy,h,e]
theorem zbY {G G' : Prop} (h : G') (f : Zh G'→G:=by intro h; (repeat (first|refine zF ?_|refine zR ?_|refine zB ?_|refine zE ?_|refine zK M M M ?_|refine zP ?_|refine zI M ?_)); exact h.o) : G:=f ⟨h⟩
theorem sameB_spec (w0:World) (X:Hp) (v u:Value) (xs ys:List Bt) (hv:RdL w0 X v xs) (hu:RdL w0 X u ys) (hl:xs.length≤1000000000) (hl2:ys.length≤1000000000) :
  Spec Tryz.prog w0 13 [v,u] X (fun r h'=>r=.bool (decide (xs=ys))∧X=h'):=by
 obtain ⟨a,c,rfl⟩:=hv.shape
 obtain ⟨a2,c2,rfl⟩:=hu.shape
 refine zN Tryz.func13 M Tryz.ntmps13 Tryz.results13 M fun fr=>?_
 refine zaX ?_
 refine yF M M (pv_neq M M) (fun n1=>?_) (fun n1=>?_)
 ·refine zaB ?_
  exact ⟨[_],X,_,⟨rfl,trivial⟩,⟨bool_F (fun h=>n1 (by rw [h])),rfl⟩,yJ.out⟩
 ·have hll:xs.length=ys.length:=by omega
  refine zbY ?_
  refine hold_count xs.length (fun k g L=>∃ (R:Hp),g=[(0,.slice a xs.length c),(1,.slice a2 ys.length c2),(5,.int .i64 k)]∧xs.take k=ys.take k∧L=X+fr+R) _ ⟨0,rfl,by simp,(yA _).symm⟩ zsb ?_
  rintro k g L hk ⟨R,rfl,hpre,rfl⟩
  refine zaP ?_
  refine yF M M (pv_lss M M) (fun n2=>?_) (fun n2=>?_)
  ·have hx:k<xs.length:=by omega
   have hy:k<ys.length:=by omega
   obtain ⟨b2,o2,rfl,e,rfl,hat⟩:=hv.at hx
   obtain ⟨b3,o3,rfl,e',rfl,hat'⟩:=hu.at hy
   refine zcZ ?_
   refine yB [] [0,1,2,3,4,5,6,7,8] (by kernel_rfl) M (by kernel_rfl) (by kernel_rfl) ?_
   refine zdI ?_
   refine W_dec M M M M (pv_neq M M) (fun n3=>?_) (fun n3=>?_)
   ·repeat (refine yI ?_)
    refine zaB ?_
    exact ⟨[_],X,_,⟨rfl,trivial⟩,⟨bool_F (fun h=>n3 (by subst h; rfl)),rfl⟩,yJ.out⟩
   ·have e:xs[k]=ys[k]:=Fin.ext (by omega)
    repeat (refine yI ?_)
    refine zaJ ?_
    exact ⟨hx,_,zsb,_,rfl,take_more hx hy hpre e,yJ.out⟩
  ·refine zaK ?_
   rw [List.take_of_length_le (by omega),List.take_of_length_le (by omega)] at hpre
   exact ⟨[_],X,_,⟨rfl,trivial⟩,⟨bool_T hpre,rfl⟩,yJ.out⟩
theorem callV_spec (w0:World) (k n:Int) (da:Option Addr) (dl dc:Nat) :
  Spec Tryz.prog w0 12 [.int .i64 k,.int .i64 n,.slice da dl dc] 0 (fun r h'=>r=.agg [.int .i64 k,.int .i64 n,.int .i64 0,.int .i64 0,.int .i64 0,.int .i64 0,.int .i64 0,.int .i64 0,.int .i64 0,.int .i64 0,.int .i64 0,.int .i64 0,.slice da dl dc].toArray∧0=h'):=by
 refine zN Tryz.func12 M Tryz.ntmps12 Tryz.results12 M fun fr=>?_
 repeat (first|refine zF ?_|refine zB ?_|refine zE ?_|refine zK M M M ?_|refine zM ?_|refine L_build (vs:=[_,_,_]) (cells:=[_,_,_,_,_,_,_,_,_,_,_,_,_]) M M M M ?_|refine L_stA M (vs:=[_,_,_,_,_,_,_,_,_,_,_,_,_]) M M M M (c':=[_,_,_,_,_,_,_,_,_,_,_,_,_]) M M ?_|refine L_alloc (c:=[_,_,_,_,_,_,_,_,_,_,_,_,_]) M M M (fun _=>?_))
 exact ⟨[_],0,_,⟨⟨_,rfl,zL (vs:=[_,_,_,_,_,_,_,_,_,_,_,_,_]) M M M⟩,trivial⟩,⟨rfl,rfl⟩,yJ.out⟩
theorem copyB_spec (w0:World) (X:Hp) (v:Value) (l:List Bt) (hv:RdL w0 X v l) (hl:l.length≤1000000000) :
  Spec Tryz.prog w0 34 [v] X (fun r h'=>∃ h,OwL w0 0 l r h∧X+h=h'):=by
 obtain ⟨a,c,rfl⟩:=hv.shape
 refine zN Tryz.func34 M Tryz.ntmps34 Tryz.results34 M fun fr=>?_
 refine zaM ?_
 refine hold_count l.length (fun k g L=>∃ (vo:Value) (h R:Hp),g=[(0,.slice a l.length c),(3,vo),(4,.int .i64 k)]∧OwL w0 0 (l.take k) vo h∧L=X+h+fr+R) _
  ⟨.slice none 0 0,0,_,rfl,OwL.nil _ _,by simp only [yA]; exact yJ.out⟩ zsb ?_
 rintro k g L hk ⟨vo,h,R,rfl,ho,rfl⟩
 refine zaP ?_
 refine yF M M (pv_lss M M) (fun n1=>?_) (fun n1=>?_)
 ·have hx:k<l.length:=by omega
  obtain ⟨b2,o2,rfl,e,rfl,hat⟩:=hv.at hx
  repeat (first|refine zF ?_|refine zR ?_|refine zB ?_|refine zE ?_|refine zK M M M ?_|refine zP ?_|refine zJ M ?_|refine L_idx M M (by omega) M M ?_|refine L_at M (by assumption) M M M M ?_|refine L_bs (vs:=[_]) (cells:=[_]) M M M M M M (fun _=>?_))
  refine L_eff M M (ev_appendL (X:=0) (ns:=[l[k]]) (h:=h) M M ho (rd_one M) (All2.one M) M M M M M (by simp only [List.length_take,List.length_singleton]; omega)) ?_
  rintro vo' _ ⟨h',ho',rfl⟩
  rw [← List.take_succ_eq_append_getElem hx] at ho'
  refine zaI ?_
  exact ⟨hx,_,zsb,vo',h',_,rfl,ho',yJ.out⟩
 ·rw [List.take_of_length_le (by omega)] at ho
  refine zaK ?_
  exact ⟨[_],X+h,_,⟨rfl,trivial⟩,⟨h,ho,rfl⟩,yJ.out⟩
def encU (l:List Int):List (List Value):=l.map fun n=>[.int .u8 n]
theorem encU_length (l:List Int):(encU l).length=l.length:=List.length_map _
theorem encU_at {l:List Int} {k:Nat} (h:k<l.length):(encU l)[k]?=some [.int .u8 (l.getD k 0)]:=by simp [encU,h,List.getD]
theorem encU_set (l:List Int) (i:Nat) (n:Int):(encU l).set i [.int .u8 n]=encU (l.set i n):=by simp [encU,List.map_set]
theorem encU_len1 (l:List Int):∀ x∈encU l,x.length=1:=by
 intro x hx
 obtain ⟨n,_,rfl⟩:=List.mem_map.1 hx
 rfl
theorem zdB {G G' : Prop} (h : G') (f : Zh G'→G:=by intro h; (repeat (first|refine yC ?_|refine zE ?_|refine zI M ?_)); exact h.o) : G:=f ⟨h⟩
theorem spoilB_spec (w0:World) (X:Hp) (v:Value) (xs:List Bt) (h:Hp) (hv:OwL w0 X xs v h) (hl:xs.length≤1000000000000):Spec Tryz.prog w0 35 [v] h (fun r h'=>True):=by
 obtain ⟨es,hrow,hes⟩:=hv
 rw [rdB_enc] at hes
 subst hes
 have e1:xs.map cellB=encU (xs.map fun b=>(b.val:Int)):=by unfold encU; rw [List.map_map]; rfl
 rw [e1] at hrow
 have hbnd:(xs.map fun b=>(b.val:Int)).length≤1000000000000:=by rw [List.length_map]; exact hl
 generalize (xs.map fun b=>(b.val:Int))=ys0 at hrow hbnd
 by_cases hne:ys0=[]
 ·subst hne
  obtain ⟨a,c,rfl⟩:=hrow.shape
  refine zN Tryz.func35 M Tryz.ntmps35 Tryz.results35 M fun fr=>?_
  refine zaM ?_
  refine hold_loop (fun m g L=>g=[(0,.slice a (encU []).length c),(2,.int .i64 0)]∧L=h+fr) 0 _ ⟨rfl,rfl⟩ zsb ?_
  rintro m g L ⟨rfl,rfl⟩
  refine zaP ?_
  refine L_no M M (pv_lss M M) (by simp [encU]) ?_
  refine zdB ?_
  exact ⟨[],h,0,trivial,trivial,(yA _).symm⟩
 ·obtain ⟨b,cap,spare,rfl,rfl,h1,h2,h3,h4⟩:=hrow.nonempty (by intro e; rw [← List.length_eq_zero_iff,encU_length] at e; exact hne (List.eq_nil_of_length_eq_zero e))
  rw [encU_length] at h2 ⊢
  refine zN Tryz.func35 M Tryz.ntmps35 Tryz.results35 M fun fr=>?_
  refine zaM ?_
  refine hold_loop (fun m g L=>∃ (k:Nat) (ys:List Int),ys.length=ys0.length∧k≤ys0.length∧m=ys0.length - k∧g=[(0,.slice (some ⟨b,0,none⟩) ys0.length cap),(2,.int .i64 k)]∧L=pt b (.cells ((encU ys).flatten++spare).toArray 5 (0,0))+fr) _ _
   ⟨0,ys0,rfl,by omega,rfl,rfl,rfl⟩ zsb ?_
  rintro m g L ⟨k,ys,hy,hk,rfl,rfl,rfl⟩
  refine zaP ?_
  refine yF M M (pv_lss M M) (fun h3=>?_) (fun h3=>?_)
  ·have hx:k<ys.length:=by omega
   have hx2:k<ys0.length:=by omega
   refine zcA ?_
   refine L_ld M (row_get0 (j:=0) (encU_len1 ys) spare (encU_at hx) M) M M M ?_
   refine yG M M (pv_xor M M) ?_
   refine yG M M (pv_indexAddr M M hx2) ?_
   refine L_st M M (row_get0 (j:=0) (encU_len1 ys) spare (encU_at hx) M) (row_set0 (j:=0) (encU_len1 ys) spare _ (encU_at hx) (by omega)) M M M ?_
   refine zaI ?_
   refine ⟨ys0.length - (k+1),_,by omega,zsb,k+1,_,?_,by omega,rfl,rfl,by rw [List.set_cons_zero,encU_set]⟩
   simp [hy]
  ·refine zdB ?_
   exact ⟨[],_,0,trivial,trivial,(yA _).symm⟩
def clr (m:Msg) (f:Nat):Msg :=
 if f=111 then { m with ok:=false } else if f=101 then { m with entries:=[] } else if f=100 then { m with data:=[] } else if f=103 then { m with group:=0 } else if f=116 then { m with term:=0 } else if f=105 then { m with index:=0 } else if f=112 then { m with prev:=0 } else if f=99 then { m with commit:=0 } else if f=114 then { m with round:=0 } else if f=115 then { m with seq:=0 } else if f=120 then { m with txn:=0 } else if f=97 then { m with part:=0 } else if f=98 then { m with ballot:=0 } else { m with value:=0 }
def getL (m:Msg) (f:Nat):Int :=
 if f=103 then m.group else if f=116 then m.term else if f=105 then m.index else if f=112 then m.prev else if f=99 then m.commit else if f=114 then m.round else if f=115 then m.seq else if f=120 then m.txn else if f=97 then m.part else if f=98 then m.ballot else m.value
def clrs (m:Msg) (l:List UInt8):Msg:=l.foldl (fun m f=>clr m f.toNat) m
theorem clrs_take (m:Msg) {l:List UInt8} {k:Nat} (h:k<l.length):clrs m (l.take (k+1))=clr (clrs m (l.take k)) l[k].toNat:=by
 unfold clrs
 rw [List.take_succ_eq_append_getElem h,List.foldl_append]; rfl
def letters :List UInt8:=[111,101,100,103,116,105,112,99,114,115,120,97,98,118]
theorem fldsM_in (k:Int):∀ f∈fldsM k,f∈letters:=by
 unfold fldsM
 repeat' split
 all_goals decide
theorem letter_cases {f:UInt8} (h:f∈letters):f=111∨f=101∨f=100∨f=103∨f=116∨f=105∨f=112∨f=99∨f=114∨f=115∨f=120∨f=97∨f=98∨f=118:=by simpa [letters] using h
theorem letter_small {f:UInt8} (h:f∈letters):f.toNat<128:=by
 rcases letter_cases h with rfl|rfl|rfl|rfl|rfl|rfl|rfl|rfl|rfl|rfl|rfl|rfl|rfl|rfl<;>decide
def numbersL :List UInt8:=[103,116,105,112,99,114,115,120,97,98,118]
theorem numbers_cases {f:UInt8} (h:f∈numbersL):f=103∨f=116∨f=105∨f=112∨f=99∨f=114∨f=115∨f=120∨f=97∨f=98∨f=118:=by simpa [numbersL] using h
def foreignF (m:Msg):Bool:=numbersL.any (fun f=>decide (getL (clrs m (fldsM m.kind)) f.toNat≠0))||((clrs m (fldsM m.kind)).ok||(decide (0<(clrs m (fldsM m.kind)).entries.length)||decide (0<(clrs m (fldsM m.kind)).data.length)))
theorem fldsM_len (k:Int):(fldsM k).length≤7:=by
 unfold fldsM
 repeat' split
 all_goals decide
theorem zdL {G G' : Prop} (h : G') (f : Zh G'→G:=by intro h; (repeat (first|refine zB ?_|refine zE ?_|refine zK M M M ?_|refine zY M M M M M ?_|refine zJ M ?_|refine L_st M M M (c':=[_,_,_,_,_,_,_,_,_,_,_,_,_,_,_,_,_]) M M M M ?_)); exact h.o) : G:=f ⟨h⟩
theorem zbK {G G' : Prop} (h : G') (f : Zh G'→G:=by intro h; (repeat (first|refine zE ?_|refine zK M M M ?_|refine L_st M M M (c':=[_,_,_,_,_,_,_,_,_,_,_,_,_,_,_,_,_]) M M M M ?_)); exact h.o) : G:=f ⟨h⟩
theorem zaZ {G G' : Prop} (h : G') (f : Zh G'→G:=by intro h; (repeat (first|refine zE ?_|refine zP ?_|refine zI M ?_)); exact h.o) : G:=f ⟨h⟩
theorem zaL {G G' : Prop} (h : G') (f : Zh G'→G:=by intro h; (repeat (first|refine zK M M M ?_|refine L_ld M M M M M ?_)); exact h.o) : G:=f ⟨h⟩
theorem foreign_spec (w0:World) (m:Msg) (a a2:Option Addr) (c c2:Nat) :
  Spec Tryz.prog w0 93 [.agg (cellsM m (.slice a m.entries.length c) (.slice a2 m.data.length c2)).toArray] 0 (fun r h'=>r=.bool (foreignF m)∧0=h'):=by
 refine zN Tryz.func93 M Tryz.ntmps93 Tryz.results93 M fun fr=>?_
 repeat (first|refine zF ?_|refine zB ?_|refine zE ?_|refine zK M M M ?_|refine zY M M M M M ?_|refine L_ld M M M M M ?_|refine L_box M (c:=[_,_,_,_,_,_,_,_,_,_,_,_,_,_,_,_,_]) M M M (fun _=>?_))
 rename_i b1
 refine zX M M (zQ M M M) (fields_spec w0 m.kind) ?_
 rintro _ _ ⟨rfl,rfl⟩
 skip
 refine L_eff M M (ev_range M) ?_
 rintro _ _ ⟨b10,rfl,rfl⟩
 repeat (first|refine zR ?_|refine zE ?_)
 have hin:=fldsM_in m.kind
 have h7:=fldsM_len m.kind
 generalize hl:fldsM m.kind=l at hin h7
 refine hold_count l.length (fun k g L=>∃ (a a2:Option Addr) (c c2:Nat) (R:Hp),g=[(1,.pointer (some ⟨b1,0,none⟩)),(10,.pointer (some ⟨b10,0,none⟩))] ∧
  L=pt b10 (.stringIter ⟨l.toArray⟩ k)+(pt b1 (.cells (cellsM (clrs m (l.take k)) (.slice a (clrs m (l.take k)).entries.length c) (.slice a2 (clrs m (l.take k)).data.length c2)).toArray 55 (0,0))+fr)+R) _ ⟨a,a2,c,c2,0,rfl,by simp only [yA,hzero_add,List.take_zero]; rfl⟩ zsb ?_
 rintro k g L hk ⟨a,a2,c,c2,R,rfl,rfl⟩
 refine zaH ?_
 by_cases hx:k<l.length
 ·have hfm:=hin _ (List.getElem_mem hx)
  refine L_eff M M (ev_next M hx (letter_small hfm) (by omega)) ?_
  rintro _ _ ⟨rfl,rfl⟩
  refine zbB ?_
  have hct:=clrs_take m hx
  generalize hm1:clrs m (l.take k)=m1 at hct
  have hlc:=letter_cases hfm
  generalize hfe:l[k]=fe at hct hlc
  rcases hlc with rfl|rfl|rfl|rfl|rfl|rfl|rfl|rfl|rfl|rfl|rfl|rfl|rfl|rfl
  ·skip
   refine L_yes M M (pv_eql M M) (by decide) ?_
   refine zdL ?_
   exact ⟨hx,_,zsb,a,a2,c,c2,_,rfl,by
    rw [hct,show clr m1 (UInt8.toNat 111)={ m1 with ok:=false } from rfl]
    show _=pt b10 _+(pt b1 (.cells (cellsM { m1 with ok:=false } (.slice a m1.entries.length c) (.slice a2 m1.data.length c2)).toArray _ (0,0))+fr)+_
    exact yJ.out⟩
  ·skip
   refine L_no M M (pv_eql M M) (by decide) ?_
   refine zaA ?_
   refine L_yes M M (pv_eql M M) (by decide) ?_
   refine zdL ?_
   exact ⟨hx,_,zsb,none,a2,0,c2,_,rfl,by
    rw [hct,show clr m1 (UInt8.toNat 101)={ m1 with entries:=[] } from rfl]
    show _=pt b10 _+(pt b1 (.cells (cellsM { m1 with entries:=[] } (.slice none 0 0) (.slice a2 m1.data.length c2)).toArray _ (0,0))+fr)+_
    exact yJ.out⟩
  ·skip
   refine L_no M M (pv_eql M M) (by decide) ?_
   refine zaA ?_
   refine L_no M M (pv_eql M M) (by decide) ?_
   refine zaA ?_
   refine L_yes M M (pv_eql M M) (by decide) ?_
   refine zdL ?_
   exact ⟨hx,_,zsb,a,none,c,0,_,rfl,by
    rw [hct,show clr m1 (UInt8.toNat 100)={ m1 with data:=[] } from rfl]
    show _=pt b10 _+(pt b1 (.cells (cellsM { m1 with data:=[] } (.slice a m1.entries.length c) (.slice none 0 0)).toArray _ (0,0))+fr)+_
    exact yJ.out⟩
  ·skip
   refine L_no M M (pv_eql M M) (by decide) ?_
   refine zaA ?_
   refine L_no M M (pv_eql M M) (by decide) ?_
   refine zaA ?_
   refine L_no M M (pv_eql M M) (by decide) ?_
   refine zaG ?_
   refine zX M M (zQ M M M) (number12_spec w0 b1 _) ?_
   rintro _ _ ⟨rfl,rfl⟩
   rw [show offL (UInt8.toNat 103)=3 from rfl]
   refine zbK ?_
   exact ⟨hx,_,zsb,a,a2,c,c2,_,rfl,by
    rw [hct,show clr m1 (UInt8.toNat 103)={ m1 with group:=0 } from rfl]
    show _=pt b10 _+(pt b1 (.cells (cellsM { m1 with group:=0 } (.slice a m1.entries.length c) (.slice a2 m1.data.length c2)).toArray _ (0,0))+fr)+_
    exact yJ.out⟩
  ·skip
   refine L_no M M (pv_eql M M) (by decide) ?_
   refine zaA ?_
   refine L_no M M (pv_eql M M) (by decide) ?_
   refine zaA ?_
   refine L_no M M (pv_eql M M) (by decide) ?_
   refine zaG ?_
   refine zX M M (zQ M M M) (number12_spec w0 b1 _) ?_
   rintro _ _ ⟨rfl,rfl⟩
   rw [show offL (UInt8.toNat 116)=4 from rfl]
   refine zbK ?_
   exact ⟨hx,_,zsb,a,a2,c,c2,_,rfl,by
    rw [hct,show clr m1 (UInt8.toNat 116)={ m1 with term:=0 } from rfl]
    show _=pt b10 _+(pt b1 (.cells (cellsM { m1 with term:=0 } (.slice a m1.entries.length c) (.slice a2 m1.data.length c2)).toArray _ (0,0))+fr)+_
    exact yJ.out⟩
  ·skip
   refine L_no M M (pv_eql M M) (by decide) ?_
   refine zaA ?_
   refine L_no M M (pv_eql M M) (by decide) ?_
   refine zaA ?_
   refine L_no M M (pv_eql M M) (by decide) ?_
   refine zaG ?_
   refine zX M M (zQ M M M) (number12_spec w0 b1 _) ?_
   rintro _ _ ⟨rfl,rfl⟩
   rw [show offL (UInt8.toNat 105)=5 from rfl]
   refine zbK ?_
   exact ⟨hx,_,zsb,a,a2,c,c2,_,rfl,by
    rw [hct,show clr m1 (UInt8.toNat 105)={ m1 with index:=0 } from rfl]
    show _=pt b10 _+(pt b1 (.cells (cellsM { m1 with index:=0 } (.slice a m1.entries.length c) (.slice a2 m1.data.length c2)).toArray _ (0,0))+fr)+_
    exact yJ.out⟩
  ·skip
   refine L_no M M (pv_eql M M) (by decide) ?_
   refine zaA ?_
   refine L_no M M (pv_eql M M) (by decide) ?_
   refine zaA ?_
   refine L_no M M (pv_eql M M) (by decide) ?_
   refine zaG ?_
   refine zX M M (zQ M M M) (number12_spec w0 b1 _) ?_
   rintro _ _ ⟨rfl,rfl⟩
   rw [show offL (UInt8.toNat 112)=6 from rfl]
   refine zbK ?_
   exact ⟨hx,_,zsb,a,a2,c,c2,_,rfl,by
    rw [hct,show clr m1 (UInt8.toNat 112)={ m1 with prev:=0 } from rfl]
    show _=pt b10 _+(pt b1 (.cells (cellsM { m1 with prev:=0 } (.slice a m1.entries.length c) (.slice a2 m1.data.length c2)).toArray _ (0,0))+fr)+_
    exact yJ.out⟩
  ·skip
   refine L_no M M (pv_eql M M) (by decide) ?_
   refine zaA ?_
   refine L_no M M (pv_eql M M) (by decide) ?_
   refine zaA ?_
   refine L_no M M (pv_eql M M) (by decide) ?_
   refine zaG ?_
   refine zX M M (zQ M M M) (number12_spec w0 b1 _) ?_
   rintro _ _ ⟨rfl,rfl⟩
   rw [show offL (UInt8.toNat 99)=7 from rfl]
   refine zbK ?_
   exact ⟨hx,_,zsb,a,a2,c,c2,_,rfl,by
    rw [hct,show clr m1 (UInt8.toNat 99)={ m1 with commit:=0 } from rfl]
    show _=pt b10 _+(pt b1 (.cells (cellsM { m1 with commit:=0 } (.slice a m1.entries.length c) (.slice a2 m1.data.length c2)).toArray _ (0,0))+fr)+_
    exact yJ.out⟩
  ·skip
   refine L_no M M (pv_eql M M) (by decide) ?_
   refine zaA ?_
   refine L_no M M (pv_eql M M) (by decide) ?_
   refine zaA ?_
   refine L_no M M (pv_eql M M) (by decide) ?_
   refine zaG ?_
   refine zX M M (zQ M M M) (number12_spec w0 b1 _) ?_
   rintro _ _ ⟨rfl,rfl⟩
   rw [show offL (UInt8.toNat 114)=8 from rfl]
   refine zbK ?_
   exact ⟨hx,_,zsb,a,a2,c,c2,_,rfl,by
    rw [hct,show clr m1 (UInt8.toNat 114)={ m1 with round:=0 } from rfl]
    show _=pt b10 _+(pt b1 (.cells (cellsM { m1 with round:=0 } (.slice a m1.entries.length c) (.slice a2 m1.data.length c2)).toArray _ (0,0))+fr)+_
    exact yJ.out⟩
  ·skip
   refine L_no M M (pv_eql M M) (by decide) ?_
   refine zaA ?_
   refine L_no M M (pv_eql M M) (by decide) ?_
   refine zaA ?_
   refine L_no M M (pv_eql M M) (by decide) ?_
   refine zaG ?_
   refine zX M M (zQ M M M) (number12_spec w0 b1 _) ?_
   rintro _ _ ⟨rfl,rfl⟩
   rw [show offL (UInt8.toNat 115)=13 from rfl]
   refine zbK ?_
   exact ⟨hx,_,zsb,a,a2,c,c2,_,rfl,by
    rw [hct,show clr m1 (UInt8.toNat 115)={ m1 with seq:=0 } from rfl]
    show _=pt b10 _+(pt b1 (.cells (cellsM { m1 with seq:=0 } (.slice a m1.entries.length c) (.slice a2 m1.data.length c2)).toArray _ (0,0))+fr)+_
    exact yJ.out⟩
  ·skip
   refine L_no M M (pv_eql M M) (by decide) ?_
   refine zaA ?_
   refine L_no M M (pv_eql M M) (by decide) ?_
   refine zaA ?_
   refine L_no M M (pv_eql M M) (by decide) ?_
   refine zaG ?_
   refine zX M M (zQ M M M) (number12_spec w0 b1 _) ?_
   rintro _ _ ⟨rfl,rfl⟩
   rw [show offL (UInt8.toNat 120)=9 from rfl]
   refine zbK ?_
   exact ⟨hx,_,zsb,a,a2,c,c2,_,rfl,by
    rw [hct,show clr m1 (UInt8.toNat 120)={ m1 with txn:=0 } from rfl]
    show _=pt b10 _+(pt b1 (.cells (cellsM { m1 with txn:=0 } (.slice a m1.entries.length c) (.slice a2 m1.data.length c2)).toArray _ (0,0))+fr)+_
    exact yJ.out⟩
  ·skip
   refine L_no M M (pv_eql M M) (by decide) ?_
   refine zaA ?_
   refine L_no M M (pv_eql M M) (by decide) ?_
   refine zaA ?_
   refine L_no M M (pv_eql M M) (by decide) ?_
   refine zaG ?_
   refine zX M M (zQ M M M) (number12_spec w0 b1 _) ?_
   rintro _ _ ⟨rfl,rfl⟩
   rw [show offL (UInt8.toNat 97)=10 from rfl]
   refine zbK ?_
   exact ⟨hx,_,zsb,a,a2,c,c2,_,rfl,by
    rw [hct,show clr m1 (UInt8.toNat 97)={ m1 with part:=0 } from rfl]
    show _=pt b10 _+(pt b1 (.cells (cellsM { m1 with part:=0 } (.slice a m1.entries.length c) (.slice a2 m1.data.length c2)).toArray _ (0,0))+fr)+_
    exact yJ.out⟩
  ·skip
   refine L_no M M (pv_eql M M) (by decide) ?_
   refine zaA ?_
   refine L_no M M (pv_eql M M) (by decide) ?_
   refine zaA ?_
   refine L_no M M (pv_eql M M) (by decide) ?_
   refine zaG ?_
   refine zX M M (zQ M M M) (number12_spec w0 b1 _) ?_
   rintro _ _ ⟨rfl,rfl⟩
   rw [show offL (UInt8.toNat 98)=11 from rfl]
   refine zbK ?_
   exact ⟨hx,_,zsb,a,a2,c,c2,_,rfl,by
    rw [hct,show clr m1 (UInt8.toNat 98)={ m1 with ballot:=0 } from rfl]
    show _=pt b10 _+(pt b1 (.cells (cellsM { m1 with ballot:=0 } (.slice a m1.entries.length c) (.slice a2 m1.data.length c2)).toArray _ (0,0))+fr)+_
    exact yJ.out⟩
  ·skip
   refine L_no M M (pv_eql M M) (by decide) ?_
   refine zaA ?_
   refine L_no M M (pv_eql M M) (by decide) ?_
   refine zaA ?_
   refine L_no M M (pv_eql M M) (by decide) ?_
   refine zaG ?_
   refine zX M M (zQ M M M) (number12_spec w0 b1 _) ?_
   rintro _ _ ⟨rfl,rfl⟩
   rw [show offL (UInt8.toNat 118)=12 from rfl]
   refine zbK ?_
   exact ⟨hx,_,zsb,a,a2,c,c2,_,rfl,by
    rw [hct,show clr m1 (UInt8.toNat 118)={ m1 with value:=0 } from rfl]
    show _=pt b10 _+(pt b1 (.cells (cellsM { m1 with value:=0 } (.slice a m1.entries.length c) (.slice a2 m1.data.length c2)).toArray _ (0,0))+fr)+_
    exact yJ.out⟩
 have hkl:k=l.length:=by omega
 subst hkl
 rw [List.take_length]
 generalize hm1:clrs m l=m1
 refine L_eff M M (ev_next_end M (by omega)) ?_
 rintro _ _ ⟨rfl,rfl⟩
 refine zbA ?_
 refine L_eff M M (ev_range (l:=numbersL) M) ?_
 rintro _ _ ⟨b27,rfl,rfl⟩
 repeat (first|refine zR ?_|refine zE ?_)
 have hF:foreignF m=(numbersL.any (fun f=>decide (getL m1 f.toNat≠0))||(m1.ok||(decide (0<m1.entries.length)||decide (0<m1.data.length)))):=by unfold foreignF; rw [hl,hm1]
 have h11:numbersL.length=11:=rfl
 refine hold_count 11 (fun k g L=>∃ R:Hp,g=[(1,.pointer (some ⟨b1,0,none⟩)),(27,.pointer (some ⟨b27,0,none⟩))]∧(∀ f∈numbersL.take k,getL m1 f.toNat=0) ∧
  L=pt b27 (.stringIter ⟨numbersL.toArray⟩ k)+(pt b1 (.cells (cellsM m1 (.slice a m1.entries.length c) (.slice a2 m1.data.length c2)).toArray 55 (0,0))+fr)+R) _ ⟨_,rfl,by simp,yJ.out⟩ zsb ?_
 rintro k g L hk ⟨R,rfl,hz,rfl⟩
 refine zaH ?_
 by_cases hx:k<numbersL.length
 ·have hfn:numbersL[k]∈numbersL:=List.getElem_mem hx
  have hfm:=(by decide:∀ f∈numbersL,f∈letters) _ hfn
  refine L_eff M M (ev_next M hx (letter_small hfm) (by omega)) ?_
  rintro _ _ ⟨rfl,rfl⟩
  refine zbB ?_
  refine zX M M (zQ M M M) (number12_spec w0 b1 _) ?_
  rintro _ _ ⟨rfl,rfl⟩
  have hyes:getL m1 numbersL[k].toNat≠0→foreignF m=true:=fun h=>by
   rw [hF,Bool.or_eq_true]
   exact .inl (List.any_eq_true.2 ⟨_,hfn,by simpa using h⟩)
  have hno:getL m1 numbersL[k].toNat=0→∀ f∈numbersL.take (k+1),getL m1 f.toNat=0:=fun h f hf=>by
   rw [List.take_succ_eq_append_getElem hx,List.mem_append,List.mem_singleton] at hf
   rcases hf with hf|rfl
   ·exact hz f hf
   ·exact h
  have hn:=numbers_cases hfn
  generalize numbersL[k]=fe at hyes hno hn
  rcases hn with rfl|rfl|rfl|rfl|rfl|rfl|rfl|rfl|rfl|rfl|rfl
  ·rw [show offL (UInt8.toNat 103)=3 from rfl]
   refine zaL ?_
   refine yF M M (pv_neq M M) (fun q=>?_) (fun q=>?_)
   ·refine zaB ?_
    exact ⟨[_],0,_,⟨rfl,trivial⟩,⟨by rw [hyes q]; rfl,rfl⟩,yJ.out⟩
   ·refine zaZ ?_
    exact ⟨by omega,_,zsb,_,rfl,hno (Decidable.not_not.1 q),yJ.out⟩
  ·rw [show offL (UInt8.toNat 116)=4 from rfl]
   refine zaL ?_
   refine yF M M (pv_neq M M) (fun q=>?_) (fun q=>?_)
   ·refine zaB ?_
    exact ⟨[_],0,_,⟨rfl,trivial⟩,⟨by rw [hyes q]; rfl,rfl⟩,yJ.out⟩
   ·refine zaZ ?_
    exact ⟨by omega,_,zsb,_,rfl,hno (Decidable.not_not.1 q),yJ.out⟩
  ·rw [show offL (UInt8.toNat 105)=5 from rfl]
   refine zaL ?_
   refine yF M M (pv_neq M M) (fun q=>?_) (fun q=>?_)
   ·refine zaB ?_
    exact ⟨[_],0,_,⟨rfl,trivial⟩,⟨by rw [hyes q]; rfl,rfl⟩,yJ.out⟩
   ·refine zaZ ?_
    exact ⟨by omega,_,zsb,_,rfl,hno (Decidable.not_not.1 q),yJ.out⟩
  ·rw [show offL (UInt8.toNat 112)=6 from rfl]
   refine zaL ?_
   refine yF M M (pv_neq M M) (fun q=>?_) (fun q=>?_)
   ·refine zaB ?_
    exact ⟨[_],0,_,⟨rfl,trivial⟩,⟨by rw [hyes q]; rfl,rfl⟩,yJ.out⟩
   ·refine zaZ ?_
    exact ⟨by omega,_,zsb,_,rfl,hno (Decidable.not_not.1 q),yJ.out⟩
  ·rw [show offL (UInt8.toNat 99)=7 from rfl]
   refine zaL ?_
   refine yF M M (pv_neq M M) (fun q=>?_) (fun q=>?_)
   ·refine zaB ?_
    exact ⟨[_],0,_,⟨rfl,trivial⟩,⟨by rw [hyes q]; rfl,rfl⟩,yJ.out⟩
   ·refine zaZ ?_
    exact ⟨by omega,_,zsb,_,rfl,hno (Decidable.not_not.1 q),yJ.out⟩
  ·rw [show offL (UInt8.toNat 114)=8 from rfl]
   refine zaL ?_
   refine yF M M (pv_neq M M) (fun q=>?_) (fun q=>?_)
   ·refine zaB ?_
    exact ⟨[_],0,_,⟨rfl,trivial⟩,⟨by rw [hyes q]; rfl,rfl⟩,yJ.out⟩
   ·refine zaZ ?_
    exact ⟨by omega,_,zsb,_,rfl,hno (Decidable.not_not.1 q),yJ.out⟩
  ·rw [show offL (UInt8.toNat 115)=13 from rfl]
   refine zaL ?_
   refine yF M M (pv_neq M M) (fun q=>?_) (fun q=>?_)
   ·refine zaB ?_
    exact ⟨[_],0,_,⟨rfl,trivial⟩,⟨by rw [hyes q]; rfl,rfl⟩,yJ.out⟩
   ·refine zaZ ?_
    exact ⟨by omega,_,zsb,_,rfl,hno (Decidable.not_not.1 q),yJ.out⟩
  ·rw [show offL (UInt8.toNat 120)=9 from rfl]
   refine zaL ?_
   refine yF M M (pv_neq M M) (fun q=>?_) (fun q=>?_)
   ·refine zaB ?_
    exact ⟨[_],0,_,⟨rfl,trivial⟩,⟨by rw [hyes q]; rfl,rfl⟩,yJ.out⟩
   ·refine zaZ ?_
    exact ⟨by omega,_,zsb,_,rfl,hno (Decidable.not_not.1 q),yJ.out⟩
  ·rw [show offL (UInt8.toNat 97)=10 from rfl]
   refine zaL ?_
   refine yF M M (pv_neq M M) (fun q=>?_) (fun q=>?_)
   ·refine zaB ?_
    exact ⟨[_],0,_,⟨rfl,trivial⟩,⟨by rw [hyes q]; rfl,rfl⟩,yJ.out⟩
   ·refine zaZ ?_
    exact ⟨by omega,_,zsb,_,rfl,hno (Decidable.not_not.1 q),yJ.out⟩
  ·rw [show offL (UInt8.toNat 98)=11 from rfl]
   refine zaL ?_
   refine yF M M (pv_neq M M) (fun q=>?_) (fun q=>?_)
   ·refine zaB ?_
    exact ⟨[_],0,_,⟨rfl,trivial⟩,⟨by rw [hyes q]; rfl,rfl⟩,yJ.out⟩
   ·refine zaZ ?_
    exact ⟨by omega,_,zsb,_,rfl,hno (Decidable.not_not.1 q),yJ.out⟩
  ·rw [show offL (UInt8.toNat 118)=12 from rfl]
   refine zaL ?_
   refine yF M M (pv_neq M M) (fun q=>?_) (fun q=>?_)
   ·refine zaB ?_
    exact ⟨[_],0,_,⟨rfl,trivial⟩,⟨by rw [hyes q]; rfl,rfl⟩,yJ.out⟩
   ·refine zaZ ?_
    exact ⟨by omega,_,zsb,_,rfl,hno (Decidable.not_not.1 q),yJ.out⟩
 have hk11:k=11:=by omega
 subst hk11
 rw [List.take_of_length_le (by omega)] at hz
 have hany:numbersL.any (fun f=>decide (getL m1 f.toNat≠0))=false:=by
  rw [List.any_eq_false]; intro f hf; simpa using hz f hf
 rw [hany,Bool.false_or] at hF
 refine L_eff M M (ev_next_end M (by omega)) ?_
 rintro _ _ ⟨rfl,rfl⟩
 rw [hF]
 clear hF hany hz hm1
 obtain ⟨ok,hok⟩:∃ ok,m1.ok=ok:=⟨_,rfl⟩
 simp only [cellsM]
 rw [hok]
 cases ok
 ·repeat (first|refine zF ?_|refine yC ?_|refine zB ?_|refine zE ?_|refine zK M M M ?_|refine zY M M M M M ?_|refine L_ld M M M M M ?_|refine L_len M M M ?_|refine zI M ?_)
  refine yF M M (pv_gtr M M) (fun q=>?_) (fun q=>?_)
  ·refine zbJ ?_
   exact ⟨[_],0,_,⟨rfl,trivial⟩,⟨by rw [decide_eq_true (show 0<m1.entries.length by omega)]; rfl,rfl⟩,yJ.out⟩
  ·refine zbW ?_
   refine yF M M (pv_gtr M M) (fun q2=>?_) (fun q2=>?_)
   ·refine zaE ?_
    exact ⟨[_],0,_,⟨rfl,trivial⟩,⟨by rw [decide_eq_true (show 0<m1.data.length by omega),decide_eq_false (show ¬ 0<m1.entries.length by omega)]; rfl,rfl⟩,yJ.out⟩
   ·refine zaE ?_
    exact ⟨[_],0,_,⟨rfl,trivial⟩,⟨by rw [decide_eq_false (show ¬ 0<m1.data.length by omega),decide_eq_false (show ¬ 0<m1.entries.length by omega)]; rfl,rfl⟩,yJ.out⟩
 ·repeat (first|refine zF ?_|refine yC ?_|refine zB ?_|refine zE ?_|refine zK M M M ?_|refine zY M M M M M ?_|refine L_ld M M M M M ?_|refine L_skip M M ?_|refine zM ?_|refine zI M ?_)
  exact ⟨[_],0,_,⟨rfl,trivial⟩,⟨rfl,rfl⟩,yJ.out⟩
def inB (n lo hi:Int):Bool:=decide (lo≤n∧n≤hi)
theorem within12_spec (w0:World) (n lo hi:Int):Spec Tryz.prog w0 173 [.int .i64 n,.int .i64 lo,.int .i64 hi] 0 (fun r h'=>r=.bool (inB n lo hi)∧0=h'):=by
 refine zN Tryz.func173 M Tryz.ntmps173 Tryz.results173 M fun fr=>?_
 refine zaC ?_
 refine yF M M (pv_geq M M) (fun n1=>?_) (fun n1=>?_)
 ·repeat (refine zK M M M ?_)
  refine yG M M (pv_leq M M) ?_
  refine zaE ?_
  exact ⟨[_],0,_,⟨rfl,trivial⟩,⟨congrArg Value.bool (decide_eq_decide.2 ⟨fun h=>⟨by omega,h⟩,fun h=>h.2⟩),rfl⟩,yJ.out⟩
 ·refine zbJ ?_
  exact ⟨[_],0,_,⟨rfl,trivial⟩,⟨congrArg Value.bool (decide_eq_false (fun h=>n1 h.1)).symm,rfl⟩,yJ.out⟩
def loB (f:Nat):Int:=if f=120∨f=97 then 1 else 0
def hiB (f:Nat):Int:=if f=103∨f=97 then 4 else if f=118 then 2 else 1099511627776
def fineL (m:Msg) (f:Nat):Bool:=decide (f=111∨f=101∨f=100)||inB (getL m f) (loB f) (hiB f)
def fineE (e:Ent):Bool:=inB e.term 0 1099511627776&&inB e.kind 0 2
def rangedF (m:Msg):Bool:=(inB m.src 1 199&&inB m.dst 1 199)&&((fldsM m.kind).all (fun f=>fineL m f.toNat)&&m.entries.all fineE)
theorem all_take {α:Type} {p:α→Bool} {l:List α} {k:Nat} (h:k<l.length) (ht:(l.take k).all p=true) (hp:p l[k]=true):(l.take (k+1)).all p=true:=by
 rw [List.take_succ_eq_append_getElem h,List.all_append,ht]; simpa using hp
theorem all_false {α:Type} {p:α→Bool} {l:List α} {k:Nat} (h:k<l.length) (hp:p l[k]=false):l.all p=false:=by
 rw [List.all_eq_false]; exact ⟨_,List.getElem_mem h,by simpa using hp⟩
theorem zbH {G G' : Prop} (h : G') (f : Zh G'→G:=by intro h; (repeat (first|refine zE ?_|refine zK M M M ?_|refine zP ?_|refine zI M ?_)); exact h.o) : G:=f ⟨h⟩
theorem zbS {G G' : Prop} (h : G') (f : Zh G'→G:=by intro h; (repeat (first|refine zF ?_|refine zB ?_|refine zE ?_|refine zK M M M ?_|refine L_skip M M ?_|refine zM ?_|refine zJ M ?_)); exact h.o) : G:=f ⟨h⟩
theorem ranged_spec (w0:World) (X:Hp) (m:Msg) (a a2:Option Addr) (c c2:Nat) (he:RdL w0 X (.slice a m.entries.length c) m.entries) (hl:m.entries.length≤1000000000) :
  Spec Tryz.prog w0 94 [.agg (cellsM m (.slice a m.entries.length c) (.slice a2 m.data.length c2)).toArray] X (fun r h'=>r=.bool (rangedF m)∧X=h'):=by
 refine zN Tryz.func94 M Tryz.ntmps94 Tryz.results94 M fun fr=>?_
 repeat (first|refine zF ?_|refine zB ?_|refine zE ?_|refine zK M M M ?_|refine zY M M M M M ?_|refine L_ld M M M M M ?_|refine L_box M (c:=[_,_,_,_,_,_,_,_,_,_,_,_,_,_,_,_,_]) M M M (fun _=>?_))
 rename_i b1
 refine zX M M (zQ M M M) (within12_spec w0 m.src 1 199) ?_
 rintro _ _ ⟨rfl,rfl⟩
 cases h1:inB m.src 1 199
 ·refine zbS ?_
  exact ⟨[_],X,_,⟨rfl,trivial⟩,⟨by unfold rangedF; rw [h1]; rfl,rfl⟩,yJ.out⟩
 refine zaO ?_
 refine zX M M (zQ M M M) (within12_spec w0 m.dst 1 199) ?_
 rintro _ _ ⟨rfl,rfl⟩
 cases h2:inB m.dst 1 199
 ·refine zaB ?_
  exact ⟨[_],X,_,⟨rfl,trivial⟩,⟨by unfold rangedF; rw [h1,h2]; rfl,rfl⟩,yJ.out⟩
 refine zcY ?_
 refine zX M M (zQ M M M) (fields_spec w0 m.kind) ?_
 rintro _ _ ⟨rfl,rfl⟩
 skip
 refine L_eff M M (ev_range M) ?_
 rintro _ _ ⟨b22,rfl,rfl⟩
 repeat (first|refine zR ?_|refine zE ?_)
 have hF:rangedF m=((fldsM m.kind).all (fun f=>fineL m f.toNat)&&m.entries.all fineE):=by unfold rangedF; rw [h1,h2]; rfl
 have hin:=fldsM_in m.kind
 have h7:=fldsM_len m.kind
 generalize hl:fldsM m.kind=l at hin h7 hF
 clear h1 h2
 refine hold_count l.length (fun k g L=>∃ R:Hp,g=[(1,.pointer (some ⟨b1,0,none⟩)),(22,.pointer (some ⟨b22,0,none⟩))]∧(l.take k).all (fun f=>fineL m f.toNat)=true ∧
  L=pt b22 (.stringIter ⟨l.toArray⟩ k)+(pt b1 (.cells (cellsM m (.slice a m.entries.length c) (.slice a2 m.data.length c2)).toArray 55 (0,0))+(X+fr))+R) _ ⟨0,rfl,rfl,by simp only [yA,hzero_add]⟩ zsb ?_
 rintro k g L hk ⟨R,rfl,hall,rfl⟩
 refine zaH ?_
 by_cases hx:k<l.length
 ·have hfm:=hin _ (List.getElem_mem hx)
  refine L_eff M M (ev_next M hx (letter_small hfm) (by omega)) ?_
  rintro _ _ ⟨rfl,rfl⟩
  refine zbB ?_
  have hyes:fineL m l[k].toNat=true→(l.take (k+1)).all (fun f=>fineL m f.toNat)=true:=fun h=>all_take (p:=fun f:UInt8=>fineL m f.toNat) hx hall h
  have hno:fineL m l[k].toNat=false→rangedF m=false:=fun h=>by rw [hF,all_false (p:=fun f:UInt8=>fineL m f.toNat) hx h]; rfl
  have hlc:=letter_cases hfm
  generalize l[k]=fe at hyes hno hlc
  rcases hlc with rfl|rfl|rfl|rfl|rfl|rfl|rfl|rfl|rfl|rfl|rfl|rfl|rfl|rfl
  ·skip
   refine L_yes M M (pv_eql M M) (by decide) ?_
   repeat (first|refine yC ?_|refine zE ?_|refine zK M M M ?_|refine zP ?_|refine zJ M ?_)
   exact ⟨hx,_,zsb,_,rfl,hyes M,yJ.out⟩
  ·skip
   refine L_no M M (pv_eql M M) (by decide) ?_
   refine zaA ?_
   refine L_yes M M (pv_eql M M) (by decide) ?_
   repeat (first|refine yC ?_|refine zE ?_|refine zK M M M ?_|refine zP ?_|refine zJ M ?_)
   exact ⟨hx,_,zsb,_,rfl,hyes M,yJ.out⟩
  ·skip
   refine L_no M M (pv_eql M M) (by decide) ?_
   refine zaA ?_
   refine L_no M M (pv_eql M M) (by decide) ?_
   refine zaG ?_
   refine L_yes M M (pv_eql M M) (by decide) ?_
   repeat (first|refine yC ?_|refine zE ?_|refine zK M M M ?_|refine zJ M ?_)
   exact ⟨hx,_,zsb,_,rfl,hyes M,yJ.out⟩
  ·skip
   refine L_no M M (pv_eql M M) (by decide) ?_
   refine zaA ?_
   refine L_no M M (pv_eql M M) (by decide) ?_
   refine zaG ?_
   refine L_no M M (pv_eql M M) (by decide) ?_
   refine zaA ?_
   refine L_yes M M (pv_eql M M) (by decide) ?_
   refine zaY ?_
   refine zX M M (zQ M M M) (number12_spec w0 b1 _) ?_
   rintro _ _ ⟨rfl,rfl⟩
   rw [show offL (UInt8.toNat 103)=3 from rfl]
   refine zaL ?_
   refine zX M M (zQ M M M) (within12_spec w0 m.group (loB 103) (hiB 103)) ?_
   rintro _ _ ⟨rfl,rfl⟩
   cases hb:inB m.group (loB 103) (hiB 103)
   ·refine zaB ?_
    exact ⟨[_],X,_,⟨rfl,trivial⟩,⟨by rw [hno (by show (false||inB m.group (loB 103) (hiB 103))=false; rw [hb]; rfl)]; rfl,rfl⟩,yJ.out⟩
   ·refine zbH ?_
    exact ⟨hx,_,zsb,_,rfl,hyes (by show (false||inB m.group (loB 103) (hiB 103))=true; rw [hb]; rfl),yJ.out⟩
  ·skip
   refine L_no M M (pv_eql M M) (by decide) ?_
   refine zaA ?_
   refine L_no M M (pv_eql M M) (by decide) ?_
   refine zaG ?_
   refine L_no M M (pv_eql M M) (by decide) ?_
   refine zaA ?_
   refine L_no M M (pv_eql M M) (by decide) ?_
   refine zaA ?_
   refine L_no M M (pv_eql M M) (by decide) ?_
   refine zaA ?_
   refine L_no M M (pv_eql M M) (by decide) ?_
   refine zaA ?_
   refine L_no M M (pv_eql M M) (by decide) ?_
   refine zaV ?_
   refine zX M M (zQ M M M) (number12_spec w0 b1 _) ?_
   rintro _ _ ⟨rfl,rfl⟩
   rw [show offL (UInt8.toNat 116)=4 from rfl]
   refine zaL ?_
   refine zX M M (zQ M M M) (within12_spec w0 m.term (loB 116) (hiB 116)) ?_
   rintro _ _ ⟨rfl,rfl⟩
   cases hb:inB m.term (loB 116) (hiB 116)
   ·refine zaB ?_
    exact ⟨[_],X,_,⟨rfl,trivial⟩,⟨by rw [hno (by show (false||inB m.term (loB 116) (hiB 116))=false; rw [hb]; rfl)]; rfl,rfl⟩,yJ.out⟩
   ·refine zbH ?_
    exact ⟨hx,_,zsb,_,rfl,hyes (by show (false||inB m.term (loB 116) (hiB 116))=true; rw [hb]; rfl),yJ.out⟩
  ·skip
   refine L_no M M (pv_eql M M) (by decide) ?_
   refine zaA ?_
   refine L_no M M (pv_eql M M) (by decide) ?_
   refine zaG ?_
   refine L_no M M (pv_eql M M) (by decide) ?_
   refine zaA ?_
   refine L_no M M (pv_eql M M) (by decide) ?_
   refine zaA ?_
   refine L_no M M (pv_eql M M) (by decide) ?_
   refine zaA ?_
   refine L_no M M (pv_eql M M) (by decide) ?_
   refine zaA ?_
   refine L_no M M (pv_eql M M) (by decide) ?_
   refine zaV ?_
   refine zX M M (zQ M M M) (number12_spec w0 b1 _) ?_
   rintro _ _ ⟨rfl,rfl⟩
   rw [show offL (UInt8.toNat 105)=5 from rfl]
   refine zaL ?_
   refine zX M M (zQ M M M) (within12_spec w0 m.index (loB 105) (hiB 105)) ?_
   rintro _ _ ⟨rfl,rfl⟩
   cases hb:inB m.index (loB 105) (hiB 105)
   ·refine zaB ?_
    exact ⟨[_],X,_,⟨rfl,trivial⟩,⟨by rw [hno (by show (false||inB m.index (loB 105) (hiB 105))=false; rw [hb]; rfl)]; rfl,rfl⟩,yJ.out⟩
   ·refine zbH ?_
    exact ⟨hx,_,zsb,_,rfl,hyes (by show (false||inB m.index (loB 105) (hiB 105))=true; rw [hb]; rfl),yJ.out⟩
  ·skip
   refine L_no M M (pv_eql M M) (by decide) ?_
   refine zaA ?_
   refine L_no M M (pv_eql M M) (by decide) ?_
   refine zaG ?_
   refine L_no M M (pv_eql M M) (by decide) ?_
   refine zaA ?_
   refine L_no M M (pv_eql M M) (by decide) ?_
   refine zaA ?_
   refine L_no M M (pv_eql M M) (by decide) ?_
   refine zaA ?_
   refine L_no M M (pv_eql M M) (by decide) ?_
   refine zaA ?_
   refine L_no M M (pv_eql M M) (by decide) ?_
   refine zaV ?_
   refine zX M M (zQ M M M) (number12_spec w0 b1 _) ?_
   rintro _ _ ⟨rfl,rfl⟩
   rw [show offL (UInt8.toNat 112)=6 from rfl]
   refine zaL ?_
   refine zX M M (zQ M M M) (within12_spec w0 m.prev (loB 112) (hiB 112)) ?_
   rintro _ _ ⟨rfl,rfl⟩
   cases hb:inB m.prev (loB 112) (hiB 112)
   ·refine zaB ?_
    exact ⟨[_],X,_,⟨rfl,trivial⟩,⟨by rw [hno (by show (false||inB m.prev (loB 112) (hiB 112))=false; rw [hb]; rfl)]; rfl,rfl⟩,yJ.out⟩
   ·refine zbH ?_
    exact ⟨hx,_,zsb,_,rfl,hyes (by show (false||inB m.prev (loB 112) (hiB 112))=true; rw [hb]; rfl),yJ.out⟩
  ·skip
   refine L_no M M (pv_eql M M) (by decide) ?_
   refine zaA ?_
   refine L_no M M (pv_eql M M) (by decide) ?_
   refine zaG ?_
   refine L_no M M (pv_eql M M) (by decide) ?_
   refine zaA ?_
   refine L_no M M (pv_eql M M) (by decide) ?_
   refine zaA ?_
   refine L_no M M (pv_eql M M) (by decide) ?_
   refine zaA ?_
   refine L_no M M (pv_eql M M) (by decide) ?_
   refine zaA ?_
   refine L_no M M (pv_eql M M) (by decide) ?_
   refine zaV ?_
   refine zX M M (zQ M M M) (number12_spec w0 b1 _) ?_
   rintro _ _ ⟨rfl,rfl⟩
   rw [show offL (UInt8.toNat 99)=7 from rfl]
   refine zaL ?_
   refine zX M M (zQ M M M) (within12_spec w0 m.commit (loB 99) (hiB 99)) ?_
   rintro _ _ ⟨rfl,rfl⟩
   cases hb:inB m.commit (loB 99) (hiB 99)
   ·refine zaB ?_
    exact ⟨[_],X,_,⟨rfl,trivial⟩,⟨by rw [hno (by show (false||inB m.commit (loB 99) (hiB 99))=false; rw [hb]; rfl)]; rfl,rfl⟩,yJ.out⟩
   ·refine zbH ?_
    exact ⟨hx,_,zsb,_,rfl,hyes (by show (false||inB m.commit (loB 99) (hiB 99))=true; rw [hb]; rfl),yJ.out⟩
  ·skip
   refine L_no M M (pv_eql M M) (by decide) ?_
   refine zaA ?_
   refine L_no M M (pv_eql M M) (by decide) ?_
   refine zaG ?_
   refine L_no M M (pv_eql M M) (by decide) ?_
   refine zaA ?_
   refine L_no M M (pv_eql M M) (by decide) ?_
   refine zaA ?_
   refine L_no M M (pv_eql M M) (by decide) ?_
   refine zaA ?_
   refine L_no M M (pv_eql M M) (by decide) ?_
   refine zaA ?_
   refine L_no M M (pv_eql M M) (by decide) ?_
   refine zaV ?_
   refine zX M M (zQ M M M) (number12_spec w0 b1 _) ?_
   rintro _ _ ⟨rfl,rfl⟩
   rw [show offL (UInt8.toNat 114)=8 from rfl]
   refine zaL ?_
   refine zX M M (zQ M M M) (within12_spec w0 m.round (loB 114) (hiB 114)) ?_
   rintro _ _ ⟨rfl,rfl⟩
   cases hb:inB m.round (loB 114) (hiB 114)
   ·refine zaB ?_
    exact ⟨[_],X,_,⟨rfl,trivial⟩,⟨by rw [hno (by show (false||inB m.round (loB 114) (hiB 114))=false; rw [hb]; rfl)]; rfl,rfl⟩,yJ.out⟩
   ·refine zbH ?_
    exact ⟨hx,_,zsb,_,rfl,hyes (by show (false||inB m.round (loB 114) (hiB 114))=true; rw [hb]; rfl),yJ.out⟩
  ·skip
   refine L_no M M (pv_eql M M) (by decide) ?_
   refine zaA ?_
   refine L_no M M (pv_eql M M) (by decide) ?_
   refine zaG ?_
   refine L_no M M (pv_eql M M) (by decide) ?_
   refine zaA ?_
   refine L_no M M (pv_eql M M) (by decide) ?_
   refine zaA ?_
   refine L_no M M (pv_eql M M) (by decide) ?_
   refine zaA ?_
   refine L_no M M (pv_eql M M) (by decide) ?_
   refine zaA ?_
   refine L_no M M (pv_eql M M) (by decide) ?_
   refine zaV ?_
   refine zX M M (zQ M M M) (number12_spec w0 b1 _) ?_
   rintro _ _ ⟨rfl,rfl⟩
   rw [show offL (UInt8.toNat 115)=13 from rfl]
   refine zaL ?_
   refine zX M M (zQ M M M) (within12_spec w0 m.seq (loB 115) (hiB 115)) ?_
   rintro _ _ ⟨rfl,rfl⟩
   cases hb:inB m.seq (loB 115) (hiB 115)
   ·refine zaB ?_
    exact ⟨[_],X,_,⟨rfl,trivial⟩,⟨by rw [hno (by show (false||inB m.seq (loB 115) (hiB 115))=false; rw [hb]; rfl)]; rfl,rfl⟩,yJ.out⟩
   ·refine zbH ?_
    exact ⟨hx,_,zsb,_,rfl,hyes (by show (false||inB m.seq (loB 115) (hiB 115))=true; rw [hb]; rfl),yJ.out⟩
  ·skip
   refine L_no M M (pv_eql M M) (by decide) ?_
   refine zaA ?_
   refine L_no M M (pv_eql M M) (by decide) ?_
   refine zaG ?_
   refine L_no M M (pv_eql M M) (by decide) ?_
   refine zaA ?_
   refine L_no M M (pv_eql M M) (by decide) ?_
   refine zaA ?_
   refine L_no M M (pv_eql M M) (by decide) ?_
   refine zaA ?_
   refine L_yes M M (pv_eql M M) (by decide) ?_
   refine zaY ?_
   refine zX M M (zQ M M M) (number12_spec w0 b1 _) ?_
   rintro _ _ ⟨rfl,rfl⟩
   rw [show offL (UInt8.toNat 120)=9 from rfl]
   refine zaL ?_
   refine zX M M (zQ M M M) (within12_spec w0 m.txn (loB 120) (hiB 120)) ?_
   rintro _ _ ⟨rfl,rfl⟩
   cases hb:inB m.txn (loB 120) (hiB 120)
   ·refine zaB ?_
    exact ⟨[_],X,_,⟨rfl,trivial⟩,⟨by rw [hno (by show (false||inB m.txn (loB 120) (hiB 120))=false; rw [hb]; rfl)]; rfl,rfl⟩,yJ.out⟩
   ·refine zbH ?_
    exact ⟨hx,_,zsb,_,rfl,hyes (by show (false||inB m.txn (loB 120) (hiB 120))=true; rw [hb]; rfl),yJ.out⟩
  ·skip
   refine L_no M M (pv_eql M M) (by decide) ?_
   refine zaA ?_
   refine L_no M M (pv_eql M M) (by decide) ?_
   refine zaG ?_
   refine L_no M M (pv_eql M M) (by decide) ?_
   refine zaA ?_
   refine L_no M M (pv_eql M M) (by decide) ?_
   refine zaA ?_
   refine L_no M M (pv_eql M M) (by decide) ?_
   refine zaA ?_
   refine L_no M M (pv_eql M M) (by decide) ?_
   refine zaA ?_
   refine L_yes M M (pv_eql M M) (by decide) ?_
   refine zaY ?_
   refine zX M M (zQ M M M) (number12_spec w0 b1 _) ?_
   rintro _ _ ⟨rfl,rfl⟩
   rw [show offL (UInt8.toNat 97)=10 from rfl]
   refine zaL ?_
   refine zX M M (zQ M M M) (within12_spec w0 m.part (loB 97) (hiB 97)) ?_
   rintro _ _ ⟨rfl,rfl⟩
   cases hb:inB m.part (loB 97) (hiB 97)
   ·refine zaB ?_
    exact ⟨[_],X,_,⟨rfl,trivial⟩,⟨by rw [hno (by show (false||inB m.part (loB 97) (hiB 97))=false; rw [hb]; rfl)]; rfl,rfl⟩,yJ.out⟩
   ·refine zbH ?_
    exact ⟨hx,_,zsb,_,rfl,hyes (by show (false||inB m.part (loB 97) (hiB 97))=true; rw [hb]; rfl),yJ.out⟩
  ·skip
   refine L_no M M (pv_eql M M) (by decide) ?_
   refine zaA ?_
   refine L_no M M (pv_eql M M) (by decide) ?_
   refine zaG ?_
   refine L_no M M (pv_eql M M) (by decide) ?_
   refine zaA ?_
   refine L_no M M (pv_eql M M) (by decide) ?_
   refine zaA ?_
   refine L_no M M (pv_eql M M) (by decide) ?_
   refine zaA ?_
   refine L_no M M (pv_eql M M) (by decide) ?_
   refine zaA ?_
   refine L_no M M (pv_eql M M) (by decide) ?_
   refine zaV ?_
   refine zX M M (zQ M M M) (number12_spec w0 b1 _) ?_
   rintro _ _ ⟨rfl,rfl⟩
   rw [show offL (UInt8.toNat 98)=11 from rfl]
   refine zaL ?_
   refine zX M M (zQ M M M) (within12_spec w0 m.ballot (loB 98) (hiB 98)) ?_
   rintro _ _ ⟨rfl,rfl⟩
   cases hb:inB m.ballot (loB 98) (hiB 98)
   ·refine zaB ?_
    exact ⟨[_],X,_,⟨rfl,trivial⟩,⟨by rw [hno (by show (false||inB m.ballot (loB 98) (hiB 98))=false; rw [hb]; rfl)]; rfl,rfl⟩,yJ.out⟩
   ·refine zbH ?_
    exact ⟨hx,_,zsb,_,rfl,hyes (by show (false||inB m.ballot (loB 98) (hiB 98))=true; rw [hb]; rfl),yJ.out⟩
  ·skip
   refine L_no M M (pv_eql M M) (by decide) ?_
   refine zaA ?_
   refine L_no M M (pv_eql M M) (by decide) ?_
   refine zaG ?_
   refine L_no M M (pv_eql M M) (by decide) ?_
   refine zaA ?_
   refine L_no M M (pv_eql M M) (by decide) ?_
   refine zaA ?_
   refine L_yes M M (pv_eql M M) (by decide) ?_
   refine zaY ?_
   refine zX M M (zQ M M M) (number12_spec w0 b1 _) ?_
   rintro _ _ ⟨rfl,rfl⟩
   rw [show offL (UInt8.toNat 118)=12 from rfl]
   refine zaL ?_
   refine zX M M (zQ M M M) (within12_spec w0 m.value (loB 118) (hiB 118)) ?_
   rintro _ _ ⟨rfl,rfl⟩
   cases hb:inB m.value (loB 118) (hiB 118)
   ·refine zaB ?_
    exact ⟨[_],X,_,⟨rfl,trivial⟩,⟨by rw [hno (by show (false||inB m.value (loB 118) (hiB 118))=false; rw [hb]; rfl)]; rfl,rfl⟩,yJ.out⟩
   ·refine zbH ?_
    exact ⟨hx,_,zsb,_,rfl,hyes (by show (false||inB m.value (loB 118) (hiB 118))=true; rw [hb]; rfl),yJ.out⟩
 have hkl:k=l.length:=by omega
 subst hkl
 rw [List.take_length] at hall
 rw [hall,Bool.true_and] at hF
 rw [hF]
 refine L_eff M M (ev_next_end M (by omega)) ?_
 rintro _ _ ⟨rfl,rfl⟩
 repeat (first|refine zF ?_|refine zR ?_|refine yC ?_|refine zB ?_|refine zE ?_|refine zK M M M ?_|refine zY M M M M M ?_|refine L_ld M M M M M ?_|refine L_len M M M ?_|refine zI M ?_)
 refine hold_count m.entries.length (fun k g L=>∃ R:Hp,g=[(48,.slice a m.entries.length c),(49,.int .i64 m.entries.length),(50,.int .i64 k)]∧(m.entries.take k).all fineE=true∧L=X+fr+R) _ ⟨_,rfl,rfl,yJ.out⟩ zsb ?_
 rintro k g L hk ⟨R2,rfl,hall2,rfl⟩
 refine zaH ?_
 refine yF M M (pv_lss M M) (fun n1=>?_) (fun n1=>?_)
 ·have hx2:k<m.entries.length:=by omega
  obtain ⟨b2,o2,rfl,e,hr,hat⟩:=he.at hx2
  obtain ⟨a5,c5,rfl,hr5⟩:=hr
  repeat (first|refine zF ?_|refine zR ?_|refine zB ?_|refine zE ?_|refine zY M M M M M ?_|refine L_ld M M M M M ?_|refine zP ?_|refine zJ M ?_|refine L_idx M M (by omega) M M ?_|refine L_atA M (by assumption) M M M M ?_|refine L_stA M (vs:=[_,_,_]) M M M M (c':=[_,_,_]) M M ?_|refine L_alloc (c:=[_,_,_]) M M M (fun _=>?_))
  refine zX M M (zQ M M M) (within12_spec w0 m.entries[k].term 0 1099511627776) ?_
  rintro _ _ ⟨rfl,rfl⟩
  cases g1:inB m.entries[k].term 0 1099511627776
  ·refine zbS ?_
   exact ⟨[_],X,_,⟨rfl,trivial⟩,⟨by rw [all_false hx2 (p:=fineE) (by show (inB m.entries[k].term 0 1099511627776&&inB m.entries[k].kind 0 2)=false; rw [g1]; rfl)]; rfl,rfl⟩,yJ.out⟩
  ·refine zaO ?_
   refine zX M M (zQ M M M) (within12_spec w0 m.entries[k].kind 0 2) ?_
   rintro _ _ ⟨rfl,rfl⟩
   cases g2:inB m.entries[k].kind 0 2
   ·refine zaB ?_
    exact ⟨[_],X,_,⟨rfl,trivial⟩,⟨by rw [all_false hx2 (p:=fineE) (by show (inB m.entries[k].term 0 1099511627776&&inB m.entries[k].kind 0 2)=false; rw [g1,g2]; rfl)]; rfl,rfl⟩,yJ.out⟩
   ·refine zaJ ?_
    exact ⟨hx2,_,zsb,_,rfl,all_take (p:=fineE) hx2 hall2 (by show (inB m.entries[k].term 0 1099511627776&&inB m.entries[k].kind 0 2)=true; rw [g1,g2]; rfl),yJ.out⟩
 ·rw [List.take_of_length_le (by omega)] at hall2
  rw [hall2]
  refine zaK ?_
  exact ⟨[_],X,_,⟨rfl,trivial⟩,⟨rfl,rfl⟩,yJ.out⟩
def sumE (l:List Ent):Nat:=(l.map (fun e=>24+min e.data.length 65536)).sum
def nF (m:Msg):Nat:=8*(3+(fldsM m.kind).length)+m.data.length
def fitsF (m:Msg):Bool:=decide (m.entries.length≤1024∧m.data.length≤65536∧nF m+sumE m.entries≤65536)
theorem sumE_take {l:List Ent} {k:Nat} (h:k<l.length):sumE (l.take (k+1))=sumE (l.take k)+(24+min l[k].data.length 65536):=by
 unfold sumE
 rw [List.take_succ_eq_append_getElem h,List.map_append,List.sum_append]; simp
theorem sumE_le (l:List Ent) (k:Nat):sumE (l.take k)≤sumE l:=by
 unfold sumE
 conv=>rhs; rw [← List.take_append_drop k l,List.map_append,List.sum_append]
 omega
section
variable {P:Program} {g:Env}
theorem pv_min_to {x y:Operand} {ts:Array TypeId} {k:IntKind} {i j m:Int} (hx:ev g x=some (.int k i)) (hy:ev g y=some (.int k j)) (h:(if j<i then j else i)=m):PV P g (.call { callee:=.builtin .min,args:=#[x,y],argTypes:=ts }) (.int k m):=by
 rw [← h]; exact pv_min hx hy
end
theorem pv_lenStr2 {P:Program} {g:Env} {t:TypeId} [hu:Und P t .string] {x:Operand} {l:List UInt8} (hx:ev g x=some (.string ⟨l.toArray⟩)):PV P g (.call { callee:=.builtin .len,args:=#[x],argTypes:=#[t] }) (.int .i64 (l.length:Nat)):=by
 intro o a w n ho ha
 unfold execOp
 have:(ByteArray.mk l.toArray).size=l.length:=by show l.toArray.size=_; simp
 simp [ho,resolve,invoke,builtin,ha.ev hx,Builtin.len_,run_underlying hu.out,goInt,this]
theorem pv_str_nil {P:Program} {g:Env} {t ty:TypeId} {x y:Operand} {l:List UInt8} (hx:ev g x=some (.string ⟨l.toArray⟩)) (hy:ev g y=some (.string ⟨#[]⟩)):PV P g (.binOp .eql t x y ty) (.bool (decide (l=[]))):=by
 refine Ab.pv_str hx hy (fun w=>?_) ⟨by simp,by simp⟩
 have key:((ByteArray.mk l.toArray).toList==(ByteArray.mk #[]).toList)=decide (l=[]):=by
  rw [show (#[]:Array UInt8)=([]:List UInt8).toArray from rfl,ByteArray.toList_mk,ByteArray.toList_mk,Bool.eq_iff_iff]; simp
 unfold Op.stringOp
 simp only [key,Sem.run_pure]
theorem fits_spec (w0:World) (X:Hp) (m:Msg) (a a2:Option Addr) (c c2:Nat) (he:RdL w0 X (.slice a m.entries.length c) m.entries) (hl:m.entries.length≤1000000000) (hd:m.data.length≤1000000000) :
  Spec Tryz.prog w0 95 [.agg (cellsM m (.slice a m.entries.length c) (.slice a2 m.data.length c2)).toArray] X (fun r h'=>r=.bool (fitsF m)∧X=h'):=by
 have h7:=fldsM_len m.kind
 refine zN Tryz.func95 M Tryz.ntmps95 Tryz.results95 M fun fr=>?_
 repeat (first|refine zF ?_|refine zB ?_|refine zE ?_|refine zK M M M ?_|refine zY M M M M M ?_|refine L_ld M M M M M ?_|refine L_len M M M ?_|refine L_box M (c:=[_,_,_,_,_,_,_,_,_,_,_,_,_,_,_,_,_]) M M M (fun _=>?_))
 rename_i b1
 refine yF M M (pv_gtr M M) (fun n1=>?_) (fun n1=>?_)
 ·have hF:fitsF m=false:=decide_eq_false (fun h=>by have:=h.1; omega)
  rw [hF]
  refine zbS ?_
  exact ⟨[_],X,_,⟨rfl,trivial⟩,⟨rfl,rfl⟩,yJ.out⟩
 refine zbW ?_
 refine yF M M (pv_gtr M M) (fun n2=>?_) (fun n2=>?_)
 ·have hF:fitsF m=false:=decide_eq_false (fun h=>by have:=h.2.1; omega)
  rw [hF]
  refine zaB ?_
  exact ⟨[_],X,_,⟨rfl,trivial⟩,⟨rfl,rfl⟩,yJ.out⟩
 have hF:fitsF m=decide (nF m+sumE m.entries≤65536):=decide_eq_decide.2 ⟨fun h=>h.2.2,fun h=>⟨by omega,by omega,h⟩⟩
 rw [hF]
 repeat (first|refine zF ?_|refine zE ?_|refine zK M M M ?_|refine zP ?_|refine zI M ?_)
 refine yB [2] [0,1,6,7,8,2,3,4,5,9,10] (by kernel_rfl) M (by kernel_rfl) (by kernel_rfl) ?_
 refine zeD ?_
 refine W_call M M M M (zQ M M M) (fields_spec w0 m.kind) (Kept.all _) ?_
 rintro _ _ ⟨rfl,rfl⟩
 refine ⟨zka,?_⟩
 skip
 refine yD M M M M (pv_lenStr2 M) ?_
 repeat (refine yD M M M M (pv_add M M (by omega) (by omega)) ?_)
 refine yD M M M M (pv_mul M M (by omega) (by omega)) ?_
 refine yD M M M M (pv_add M M (by omega) (by omega)) ?_
 have hn:(8:Int)*(3+((fldsM m.kind).length:Nat))+(m.data.length:Nat)=((nF m:Nat):Int):=by unfold nF; omega
 rw [hn]
 have hnb:nF m≤65616:=by unfold nF; omega
 refine zaD ?_
 refine zcI ?_
 refine hold_count m.entries.length (fun k g L=>∃ R:Hp,g=[(3,.int .i64 ((nF m+sumE (m.entries.take k):Nat):Int)),(27,.slice a m.entries.length c),(28,.int .i64 m.entries.length),(29,.int .i64 k)]∧nF m+sumE (m.entries.take k)≤65616∧L=X+fr+R) _ ⟨_,rfl,hnb,yJ.out⟩ zsb ?_
 rintro k g L hk ⟨R2,rfl,hsb,rfl⟩
 refine zaH ?_
 refine yF M M (pv_lss M M) (fun n3=>?_) (fun n3=>?_)
 ·have hx2:k<m.entries.length:=by omega
  have hst:=sumE_take hx2
  have hle:=sumE_le m.entries (k+1)
  obtain ⟨b2,o2,rfl,e,hr,hat⟩:=he.at hx2
  obtain ⟨a5,c5,rfl,hr5⟩:=hr
  have hq:min m.entries[k].data.length 65536≤65536:=Nat.min_le_right _ _
  have hmn:(if (65536:Int)<(m.entries[k].data.length:Nat) then (65536:Int) else (m.entries[k].data.length:Nat))=((min m.entries[k].data.length 65536:Nat):Int):=by
   split
   ·rw [Nat.min_eq_right (by omega)]; rfl
   ·rw [Nat.min_eq_left (by omega)]
  repeat (first|refine zF ?_|refine zR ?_|refine zB ?_|refine zE ?_|refine zK M M M ?_|refine zY M M M M M ?_|refine L_ld M M M M M ?_|refine L_len M M M ?_|refine zP ?_|refine zJ M ?_|refine L_idx M M (by omega) M M ?_|refine L_atA M (by assumption) M M M M ?_|refine L_stA M (vs:=[_,_,_]) M M M M (c':=[_,_,_]) M M ?_|refine L_alloc (c:=[_,_,_]) M M M (fun _=>?_))
  refine yG M M (pv_min_to M M hmn) ?_
  generalize min m.entries[k].data.length 65536=q at hq hst
  refine zcW ?_
  rw [show ((nF m+sumE (m.entries.take k):Nat):Int)+(24+(q:Int))=((nF m+sumE (m.entries.take (k+1)):Nat):Int) by omega]
  refine yF M M (pv_gtr M M) (fun n4=>?_) (fun n4=>?_)
  ·refine zaB ?_
   exact ⟨[_],X,_,⟨rfl,trivial⟩,⟨congrArg Value.bool (decide_eq_false (by omega)).symm,rfl⟩,yJ.out⟩
  ·refine zaJ ?_
   exact ⟨hx2,_,zsb,_,rfl,by omega,yJ.out⟩
 ·rw [List.take_of_length_le (by omega)]
  refine zbA ?_
  refine yG M M (pv_leq M M) ?_
  refine zaE ?_
  exact ⟨[_],X,_,⟨rfl,trivial⟩,⟨congrArg Value.bool (decide_eq_decide.2 (by omega)),rfl⟩,yJ.out⟩
def checkM (m:Msg):Int:=if fldsM m.kind=[] then 13 else if foreignF m=true then 14 else if rangedF m=false then 3 else if fitsF m=false then 2 else 0
theorem check12_spec (w0:World) (X:Hp) (m:Msg) (a a2:Option Addr) (c c2:Nat) (he:RdL w0 X (.slice a m.entries.length c) m.entries) (hl:m.entries.length≤1000000000) (hd:m.data.length≤1000000000) :
  Spec Tryz.prog w0 43 [.agg (cellsM m (.slice a m.entries.length c) (.slice a2 m.data.length c2)).toArray] X (fun r h'=>r=.int .i64 (checkM m)∧X=h'):=by
 refine zN Tryz.func43 M Tryz.ntmps43 Tryz.results43 M fun fr=>?_
 repeat (first|refine zF ?_|refine zR ?_|refine zB ?_|refine zE ?_|refine zK M M M ?_|refine zY M M M M M ?_|refine L_ld M M M M M ?_|refine L_box M (c:=[_,_,_,_,_,_,_,_,_,_,_,_,_,_,_,_,_]) M M M (fun _=>?_))
 rename_i b1
 refine zX M M (zQ M M M) (fields_spec w0 m.kind) ?_
 rintro _ _ ⟨rfl,rfl⟩
 skip
 refine yF M M (pv_str_nil M M) (fun n1=>?_) (fun n1=>?_)
 ·have hF:checkM m=13:=by unfold checkM; rw [if_pos n1]
  rw [hF]
  refine zaB ?_
  exact ⟨[_],X,_,⟨rfl,trivial⟩,⟨rfl,rfl⟩,yJ.out⟩
 refine zcH ?_
 refine zX M M (zQ M M M) (foreign_spec w0 m a a2 c c2) ?_
 rintro _ _ ⟨rfl,rfl⟩
 cases h2:foreignF m
 rotate_left
 ·have hF:checkM m=14:=by unfold checkM; rw [if_neg n1,if_pos h2]
  rw [hF]
  refine zaB ?_
  exact ⟨[_],X,_,⟨rfl,trivial⟩,⟨rfl,rfl⟩,yJ.out⟩
 refine zcH ?_
 refine zX M M (zQ M M M) (ranged_spec w0 X m a a2 c c2 he hl) ?_
 rintro _ _ ⟨rfl,rfl⟩
 cases h3:rangedF m
 ·have hF:checkM m=3:=by unfold checkM; rw [if_neg n1,if_neg (by rw [h2]; simp),if_pos h3]
  rw [hF]
  refine zaB ?_
  exact ⟨[_],X,_,⟨rfl,trivial⟩,⟨rfl,rfl⟩,yJ.out⟩
 refine zcH ?_
 refine zX M M (zQ M M M) (fits_spec w0 X m a a2 c c2 he hl hd) ?_
 rintro _ _ ⟨rfl,rfl⟩
 cases h4:fitsF m
 ·have hF:checkM m=2:=by unfold checkM; rw [if_neg n1,if_neg (by rw [h2]; simp),if_neg (by rw [h3]; simp),if_pos h4]
  rw [hF]
  refine zaB ?_
  exact ⟨[_],X,_,⟨rfl,trivial⟩,⟨rfl,rfl⟩,yJ.out⟩
 ·have hF:checkM m=0:=by unfold checkM; rw [if_neg n1,if_neg (by rw [h2]; simp),if_neg (by rw [h3]; simp),if_neg (by rw [h4]; simp)]
  rw [hF]
  refine zbC ?_
  exact ⟨[_],X,_,⟨rfl,trivial⟩,⟨rfl,rfl⟩,yJ.out⟩
def bitI (b:Bool):Int:=if b=true then 1 else 0
def encE (e:Ent):List Bt:=be8 e.term++be8 e.kind++blob e.data
def encF (m:Msg) (f:Nat):List Bt:=if f=111 then be8 (bitI m.ok) else if f=101 then be8 m.entries.length++(m.entries.map encE).flatten else if f=100 then blob m.data else be8 (getL m f)
def outL (m:Msg) (l:List UInt8):List Bt:=(l.map (fun f=>encF m f.toNat)).flatten
def preF (m:Msg):List Bt:=be8 m.kind++be8 m.src++be8 m.dst
def putM (m:Msg):List Bt:=preF m++outL m (fldsM m.kind)
theorem sumE_real {l:List Ent} (h:sumE l≤65536):(l.map encE).flatten.length=sumE l∧∀ e∈l,e.data.length≤65536:=by
 induction l with
 | nil=>exact ⟨rfl,by simp⟩
 | cons x l ih =>
  have hs:sumE (x::l)=24+min x.data.length 65536+sumE l:=by unfold sumE; simp
  rw [hs] at h ⊢
  have hx:min x.data.length 65536=x.data.length:=by
   by_cases hh:x.data.length≤65536
   ·exact Nat.min_eq_left hh
   ·rw [Nat.min_eq_right (by omega)] at h; omega
  obtain ⟨h1,h2⟩:=ih (by omega)
  rw [hx] at h ⊢
  refine ⟨?_,fun e he=>?_⟩
  ·simp only [List.map_cons,List.flatten_cons,List.length_append,h1,encE,blob,be8_length]; omega
  ·rcases List.mem_cons.1 he with rfl|he
   ·omega
   ·exact h2 e he
theorem check_ok {m:Msg} (h:checkM m=0):fldsM m.kind≠[]∧foreignF m=false∧rangedF m=true∧m.entries.length≤1024∧m.data.length≤65536∧nF m+sumE m.entries≤65536:=by
 unfold checkM at h
 split at h
 ·cases h
 rename_i h1
 split at h
 ·cases h
 rename_i h2
 split at h
 ·cases h
 rename_i h3
 split at h
 ·cases h
 rename_i h4
 have h5:fitsF m=true:=by simpa using h4
 exact ⟨h1,by simpa using h2,by simpa using h3,of_decide_eq_true h5⟩
theorem encF_le {m:Msg} (h:checkM m=0) (f:Nat):(encF m f).length≤66000:=by
 obtain ⟨_,_,_,h4,h5,h6⟩:=check_ok h
 obtain ⟨h7,_⟩:=sumE_real (l:=m.entries) (by omega)
 unfold encF
 split
 ·rw [be8_length]; omega
 split
 ·rw [List.length_append,be8_length,h7]; omega
 split
 ·rw [blob,List.length_append,be8_length]; omega
 ·rw [be8_length]; omega
theorem outL_le {m:Msg} (h:checkM m=0):∀ l:List UInt8,(outL m l).length≤66000*l.length
 | []=>by simp [outL]
 | f::l=>by
  have h1:=encF_le h f.toNat
  have h2:=outL_le h l
  unfold outL at h2 ⊢
  simp only [List.map_cons,List.flatten_cons,List.length_append,List.length_cons]
  omega
theorem outL_take (m:Msg) {l:List UInt8} {k:Nat} (h:k<l.length):outL m (l.take (k+1))=outL m (l.take k)++encF m l[k].toNat:=flat_take (fun f:UInt8=>encF m f.toNat) h
theorem preF_length (m:Msg):(preF m).length=24:=by unfold preF; rw [List.length_append,List.length_append,be8_length,be8_length,be8_length]
theorem zaR {G G' : Prop} (h : G') (f : Zh G'→G:=by intro h; (repeat (first|refine zE ?_|refine zK M M M ?_)); exact h.o) : G:=f ⟨h⟩
theorem zbT {G G' : Prop} (h : G') (f : Zh G'→G:=by intro h; (repeat (first|refine zF ?_|refine yC ?_|refine zE ?_|refine zI M ?_)); exact h.o) : G:=f ⟨h⟩
theorem zeH {G G' : Prop} (h : G') (f : Zh G'→G:=by intro h; (repeat (first|refine zF ?_|refine zB ?_|refine zE ?_|refine zK M M M ?_|refine zY M M M M M ?_|refine L_ld M M M M M ?_|refine L_len M M M ?_|refine zJ M ?_)); exact h.o) : G:=f ⟨h⟩
theorem zeG {G G' : Prop} (h : G') (f : Zh G'→G:=by intro h; (repeat (first|refine zF ?_|refine zB ?_|refine zE ?_|refine zK M M M ?_|refine zY M M M M M ?_|refine L_ld M M M M M ?_|refine zJ M ?_)); exact h.o) : G:=f ⟨h⟩
theorem zcD {G G' : Prop} (h : G') (f : Zh G'→G:=by intro h; (repeat (first|refine zF ?_|refine zB ?_|refine zY M M M M M ?_|refine L_ld M M M M M ?_)); exact h.o) : G:=f ⟨h⟩
theorem msgPut_spec (w0:World) (X:Hp) (m:Msg) (a a2:Option Addr) (c c2:Nat) (he:RdL w0 X (.slice a m.entries.length c) m.entries) (hd:RdL w0 X (.slice a2 m.data.length c2) m.data) (hl:m.entries.length≤1000000000) (hdl:m.data.length≤1000000000) :
  Spec Tryz.prog w0 202 [.agg (cellsM m (.slice a m.entries.length c) (.slice a2 m.data.length c2)).toArray] X
   (fun r h'=>(checkM m≠0∧r=.tuple #[.slice none 0 0,.int .i64 (checkM m)]∧X=h')∨(checkM m=0∧65536<(putM m).length∧r=.tuple #[.slice none 0 0,.int .i64 2]∧X=h') ∨
    (checkM m=0∧(putM m).length≤65536∧∃ u h,r=.tuple #[u,.int .i64 0]∧OwL w0 0 (headF (putM m)++putM m) u h∧X+h=h')):=by
 refine zN Tryz.func202 M Tryz.ntmps202 Tryz.results202 M fun fr=>?_
 repeat (first|refine zF ?_|refine zB ?_|refine zE ?_|refine zK M M M ?_|refine L_ldA M (vs:=[_,_,_,_,_,_,_,_,_,_,_,_,_,_,_,_,_]) M M M M M ?_|refine L_box M (c:=[_,_,_,_,_,_,_,_,_,_,_,_,_,_,_,_,_]) M M M (fun _=>?_))
 rename_i b1
 refine zX M M (zQ M M M) (check12_spec w0 X m a a2 c c2 he hl hdl) ?_
 rintro _ _ ⟨rfl,rfl⟩
 refine zaC ?_
 refine yF M M (pv_neq M M) (fun n1=>?_) (fun n1=>?_)
 ·refine zaB ?_
  exact ⟨[_,_],X,_,⟨rfl,rfl,trivial⟩,.inl ⟨n1,rfl,rfl⟩,yJ.out⟩
 have hck:checkM m=0:=Decidable.not_not.1 n1
 obtain ⟨q1,q2,q3,q4,q5,q6⟩:=check_ok hck
 obtain ⟨q7,q8⟩:=sumE_real (l:=m.entries) (by omega)
 have h7:=fldsM_len m.kind
 have hin:=fldsM_in m.kind
 have hol:=outL_le hck (fldsM m.kind)
 rw [hck]
 refine zbP ?_
 refine yB [2,5,8] [0,1,3,4,6,7,2,5,8,9] (by kernel_rfl) M (by kernel_rfl) (by kernel_rfl) ?_
 refine zbR ?_
 refine W_call M M M M (zQ M M M) (putInt_spec w0 0 (.slice none 0 0) [] m.kind (RdL.nil _ _ _) (by simp)) (Kept.all _) ?_
 rintro v1 _ ⟨h1,ho1,rfl⟩
 refine ⟨zka,?_⟩
 skip
 rw [List.nil_append] at ho1
 refine W_call M M M M (zQ M M M) (putInt_spec w0 h1 v1 _ m.src ho1.rdh (by rw [be8_length]; omega)) (Kept.all _) ?_
 rintro v2 _ ⟨h2,ho2,rfl⟩
 refine ⟨zka,?_⟩
 skip
 refine W_call M M M M (zQ M M M) (putInt_spec w0 h2 v2 _ m.dst ho2.rdh (by simp only [List.length_append,be8_length]; omega)) (Kept.all _) ?_
 rintro v3 _ ⟨h3,ho3,rfl⟩
 refine ⟨zka,?_⟩
 refine zaD ?_
 refine zcD ?_
 refine zX M M (zQ M M M) (fields_spec w0 m.kind) ?_
 rintro _ _ ⟨rfl,rfl⟩
 skip
 refine L_eff M M (ev_range M) ?_
 rintro _ _ ⟨b28,rfl,rfl⟩
 repeat (first|refine zR ?_|refine zE ?_)
 have hput:putM m=preF m++outL m (fldsM m.kind):=rfl
 generalize hfl:fldsM m.kind=l at hin h7 hol hput
 have hpl:=preF_length m
 have hpre:∀ k,(preF m++outL m (l.take k)).length≤500000:=fun k=>by
  have:=flat_le (fun f:UInt8=>encF m f.toNat) l k
  have h9:(outL m (l.take k)).length≤(outL m l).length:=this
  rw [List.length_append]; omega
 refine hold_count l.length (fun k g L=>∃ (vo:Value) (h R:Hp),g=[(1,.pointer (some ⟨b1,0,none⟩)),(5,vo),(28,.pointer (some ⟨b28,0,none⟩))]∧OwL w0 0 (preF m++outL m (l.take k)) vo h ∧
  L=pt b28 (.stringIter ⟨l.toArray⟩ k)+(pt b1 (.cells (cellsM m (.slice a m.entries.length c) (.slice a2 m.data.length c2)).toArray 55 (0,0))+(X+(fr+h)))+R) _ ⟨v3,h3,_,rfl,by simpa [outL,preF] using ho3,yJ.out⟩ zsb ?_
 rintro k g L hk ⟨vo,h,R,rfl,ho,rfl⟩
 refine zaH ?_
 by_cases hx:k<l.length
 ·have hfm:=hin _ (List.getElem_mem hx)
  refine L_eff M M (ev_next M hx (letter_small hfm) (by omega)) ?_
  rintro _ _ ⟨rfl,rfl⟩
  have hot:=outL_take m hx
  have hpk:=hpre k
  have hlc:=letter_cases hfm
  generalize l[k]=fe at hot hlc
  generalize hP:preF m++outL m (l.take k)=pp at ho hpk
  have fin:∀ {v5:Value} {h5:Hp},OwL w0 0 (pp++encF m fe.toNat) v5 h5→OwL w0 0 (preF m++outL m (l.take (k+1))) v5 h5:=fun h=>by rw [hot,← List.append_assoc,hP]; exact h
  clear hot
  refine zbB ?_
  rcases hlc with rfl|rfl|rfl|rfl|rfl|rfl|rfl|rfl|rfl|rfl|rfl|rfl|rfl|rfl
  ·skip
   refine L_yes M M (pv_eql M M) (by decide) ?_
   refine zeG ?_
   refine hold_cond_d (p:=m.ok=true) (by rw [Bool.decide_eq_true]; rfl) (fun q=>?_) (fun q=>?_)
   ·have hb:encF m (UInt8.toNat 111)=be8 1:=by show be8 (bitI m.ok)=_; unfold bitI; rw [if_pos q]
    rw [hb] at fin
    refine zcN ?_
    refine zX M M (zQ M M M) (putInt_spec w0 h vo pp 1 ho.rdh (by omega)) ?_
    rintro v5 _ ⟨h5,ho5,rfl⟩
    refine zaR ?_
    exact ⟨hx,_,zsb,v5,h5,_,rfl,fin ho5,yJ.out⟩
   ·have hb:encF m (UInt8.toNat 111)=be8 0:=by show be8 (bitI m.ok)=_; unfold bitI; rw [if_neg q]
    rw [hb] at fin
    repeat (first|refine zB ?_|refine zK M M M ?_|refine zP ?_)
    refine zX M M (zQ M M M) (putInt_spec w0 h vo pp 0 ho.rdh (by omega)) ?_
    rintro v5 _ ⟨h5,ho5,rfl⟩
    refine zaR ?_
    exact ⟨hx,_,zsb,v5,h5,_,rfl,fin ho5,yJ.out⟩
  ·skip
   refine L_no M M (pv_eql M M) (by decide) ?_
   refine zaA ?_
   refine L_yes M M (pv_eql M M) (by decide) ?_
   refine zeH ?_
   refine zX M M (zQ M M M) (putInt_spec w0 h vo pp m.entries.length ho.rdh (by omega)) ?_
   rintro v5 _ ⟨h5,ho5,rfl⟩
   refine zcI ?_
   have hsz:∀ j,((m.entries.take j).map encE).flatten.length≤65536:=fun j=>by have:=flat_le encE m.entries j; omega
   refine hold_count m.entries.length (fun j g L=>∃ (vo:Value) (h R:Hp),g=[(1,.pointer (some ⟨b1,0,none⟩)),(5,vo),(28,.pointer (some ⟨b28,0,none⟩)),(54,.slice a m.entries.length c),(55,.int .i64 m.entries.length),(56,.int .i64 j)]∧OwL w0 0 (pp++be8 m.entries.length++((m.entries.take j).map encE).flatten) vo h ∧
    L=pt b28 (.stringIter ⟨l.toArray⟩ (k+1))+(pt b1 (.cells (cellsM m (.slice a m.entries.length c) (.slice a2 m.data.length c2)).toArray 55 (0,0))+(X+(fr+h)))+R) _ ⟨v5,h5,_,rfl,by simpa using ho5,yJ.out⟩ zsb ?_
   rintro j g L hj ⟨vo6,h6,R6,rfl,ho6,rfl⟩
   refine zaH ?_
   refine yF M M (pv_lss M M) (fun n3=>?_) (fun n3=>?_)
   ·have hxj:j<m.entries.length:=by omega
    have hst:=flat_step encE hxj
    have hsj:=hsz j
    have hel:(encE m.entries[j]).length=24+m.entries[j].data.length:=by simp only [encE,blob,List.length_append,be8_length]; omega
    obtain ⟨b2,o2,rfl,e,hr,hat⟩:=he.at hxj
    obtain ⟨a7,c7,rfl,hr7⟩:=hr
    repeat (first|refine zF ?_|refine zR ?_|refine zB ?_|refine zE ?_|refine zP ?_|refine zJ M ?_|refine L_idx M M (by omega) M M ?_|refine L_atA M (by assumption) M M M M ?_|refine L_stA M (vs:=[_,_,_]) M M M M (c':=[_,_,_]) M M ?_|refine L_alloc (c:=[_,_,_]) M M M (fun _=>?_))
    refine yB [3,6,9] [0,1,2,4,5,7,8,3,6,9,10] (by kernel_rfl) M (by kernel_rfl) (by kernel_rfl) ?_
    refine zaF ?_
    refine W_call M M M M (zQ M M M) (putInt_spec w0 h6 vo6 _ m.entries[j].term ho6.rdh (by simp only [List.length_append,be8_length]; omega)) (Kept.all _) ?_
    rintro v8 _ ⟨h8,ho8,rfl⟩
    refine ⟨zka,?_⟩
    skip
    refine W_call M M M M (zQ M M M) (putInt_spec w0 h8 v8 _ m.entries[j].kind ho8.rdh (by simp only [List.length_append,be8_length]; omega)) (Kept.all _) ?_
    rintro v9 _ ⟨h9,ho9,rfl⟩
    refine ⟨zka,?_⟩
    skip
    refine W_call M M M M (zQ M M M) (putBlob_spec w0 (X+h9) v9 _ _ m.entries[j].data (ho9.rd (R:=X)) (hr7.frame) (by simp only [List.length_append,be8_length]; omega)) (Kept.all _) ?_
    rintro v10 _ ⟨h10,ho10,rfl⟩
    refine ⟨zka,?_⟩
    refine zaD ?_
    refine zaI ?_
    exact ⟨hxj,_,zsb,v10,h10,_,rfl,by rw [flat_take encE hxj]; simpa only [encE,blob,List.append_assoc] using ho10,yJ.out⟩
   ·rw [List.take_of_length_le (by omega)] at ho6
    refine zbT ?_
    exact ⟨hx,_,zsb,vo6,h6,_,rfl,fin (by show OwL w0 0 (pp++(be8 m.entries.length++(m.entries.map encE).flatten)) vo6 h6; rw [← List.append_assoc]; exact ho6),yJ.out⟩
  ·skip
   refine L_no M M (pv_eql M M) (by decide) ?_
   refine zaA ?_
   refine L_no M M (pv_eql M M) (by decide) ?_
   refine zaA ?_
   refine L_yes M M (pv_eql M M) (by decide) ?_
   refine zdJ ?_
   refine zX M M (zQ M M M) (putBlob_spec w0 (X+h) vo _ pp m.data (ho.rd (R:=X)) (hd.frame) (by omega)) ?_
   rintro v5 _ ⟨h5,ho5,rfl⟩
   refine zaR ?_
   exact ⟨hx,_,zsb,v5,h5,_,rfl,fin (by show OwL w0 0 (pp++(be8 m.data.length++m.data)) v5 h5; rw [← List.append_assoc]; exact ho5),yJ.out⟩
  ·skip
   refine L_no M M (pv_eql M M) (by decide) ?_
   refine zaA ?_
   refine L_no M M (pv_eql M M) (by decide) ?_
   refine zaA ?_
   refine L_no M M (pv_eql M M) (by decide) ?_
   refine zaG ?_
   refine zX M M (zQ M M M) (number12_spec w0 b1 _) ?_
   rintro _ _ ⟨rfl,rfl⟩
   rw [show offL (UInt8.toNat 103)=3 from rfl]
   refine zaL ?_
   refine zX M M (zQ M M M) (putInt_spec w0 h vo pp m.group ho.rdh (by omega)) ?_
   rintro v5 _ ⟨h5,ho5,rfl⟩
   refine zaR ?_
   exact ⟨hx,_,zsb,v5,h5,_,rfl,fin ho5,yJ.out⟩
  ·skip
   refine L_no M M (pv_eql M M) (by decide) ?_
   refine zaA ?_
   refine L_no M M (pv_eql M M) (by decide) ?_
   refine zaA ?_
   refine L_no M M (pv_eql M M) (by decide) ?_
   refine zaG ?_
   refine zX M M (zQ M M M) (number12_spec w0 b1 _) ?_
   rintro _ _ ⟨rfl,rfl⟩
   rw [show offL (UInt8.toNat 116)=4 from rfl]
   refine zaL ?_
   refine zX M M (zQ M M M) (putInt_spec w0 h vo pp m.term ho.rdh (by omega)) ?_
   rintro v5 _ ⟨h5,ho5,rfl⟩
   refine zaR ?_
   exact ⟨hx,_,zsb,v5,h5,_,rfl,fin ho5,yJ.out⟩
  ·skip
   refine L_no M M (pv_eql M M) (by decide) ?_
   refine zaA ?_
   refine L_no M M (pv_eql M M) (by decide) ?_
   refine zaA ?_
   refine L_no M M (pv_eql M M) (by decide) ?_
   refine zaG ?_
   refine zX M M (zQ M M M) (number12_spec w0 b1 _) ?_
   rintro _ _ ⟨rfl,rfl⟩
   rw [show offL (UInt8.toNat 105)=5 from rfl]
   refine zaL ?_
   refine zX M M (zQ M M M) (putInt_spec w0 h vo pp m.index ho.rdh (by omega)) ?_
   rintro v5 _ ⟨h5,ho5,rfl⟩
   refine zaR ?_
   exact ⟨hx,_,zsb,v5,h5,_,rfl,fin ho5,yJ.out⟩
  ·skip
   refine L_no M M (pv_eql M M) (by decide) ?_
   refine zaA ?_
   refine L_no M M (pv_eql M M) (by decide) ?_
   refine zaA ?_
   refine L_no M M (pv_eql M M) (by decide) ?_
   refine zaG ?_
   refine zX M M (zQ M M M) (number12_spec w0 b1 _) ?_
   rintro _ _ ⟨rfl,rfl⟩
   rw [show offL (UInt8.toNat 112)=6 from rfl]
   refine zaL ?_
   refine zX M M (zQ M M M) (putInt_spec w0 h vo pp m.prev ho.rdh (by omega)) ?_
   rintro v5 _ ⟨h5,ho5,rfl⟩
   refine zaR ?_
   exact ⟨hx,_,zsb,v5,h5,_,rfl,fin ho5,yJ.out⟩
  ·skip
   refine L_no M M (pv_eql M M) (by decide) ?_
   refine zaA ?_
   refine L_no M M (pv_eql M M) (by decide) ?_
   refine zaA ?_
   refine L_no M M (pv_eql M M) (by decide) ?_
   refine zaG ?_
   refine zX M M (zQ M M M) (number12_spec w0 b1 _) ?_
   rintro _ _ ⟨rfl,rfl⟩
   rw [show offL (UInt8.toNat 99)=7 from rfl]
   refine zaL ?_
   refine zX M M (zQ M M M) (putInt_spec w0 h vo pp m.commit ho.rdh (by omega)) ?_
   rintro v5 _ ⟨h5,ho5,rfl⟩
   refine zaR ?_
   exact ⟨hx,_,zsb,v5,h5,_,rfl,fin ho5,yJ.out⟩
  ·skip
   refine L_no M M (pv_eql M M) (by decide) ?_
   refine zaA ?_
   refine L_no M M (pv_eql M M) (by decide) ?_
   refine zaA ?_
   refine L_no M M (pv_eql M M) (by decide) ?_
   refine zaG ?_
   refine zX M M (zQ M M M) (number12_spec w0 b1 _) ?_
   rintro _ _ ⟨rfl,rfl⟩
   rw [show offL (UInt8.toNat 114)=8 from rfl]
   refine zaL ?_
   refine zX M M (zQ M M M) (putInt_spec w0 h vo pp m.round ho.rdh (by omega)) ?_
   rintro v5 _ ⟨h5,ho5,rfl⟩
   refine zaR ?_
   exact ⟨hx,_,zsb,v5,h5,_,rfl,fin ho5,yJ.out⟩
  ·skip
   refine L_no M M (pv_eql M M) (by decide) ?_
   refine zaA ?_
   refine L_no M M (pv_eql M M) (by decide) ?_
   refine zaA ?_
   refine L_no M M (pv_eql M M) (by decide) ?_
   refine zaG ?_
   refine zX M M (zQ M M M) (number12_spec w0 b1 _) ?_
   rintro _ _ ⟨rfl,rfl⟩
   rw [show offL (UInt8.toNat 115)=13 from rfl]
   refine zaL ?_
   refine zX M M (zQ M M M) (putInt_spec w0 h vo pp m.seq ho.rdh (by omega)) ?_
   rintro v5 _ ⟨h5,ho5,rfl⟩
   refine zaR ?_
   exact ⟨hx,_,zsb,v5,h5,_,rfl,fin ho5,yJ.out⟩
  ·skip
   refine L_no M M (pv_eql M M) (by decide) ?_
   refine zaA ?_
   refine L_no M M (pv_eql M M) (by decide) ?_
   refine zaA ?_
   refine L_no M M (pv_eql M M) (by decide) ?_
   refine zaG ?_
   refine zX M M (zQ M M M) (number12_spec w0 b1 _) ?_
   rintro _ _ ⟨rfl,rfl⟩
   rw [show offL (UInt8.toNat 120)=9 from rfl]
   refine zaL ?_
   refine zX M M (zQ M M M) (putInt_spec w0 h vo pp m.txn ho.rdh (by omega)) ?_
   rintro v5 _ ⟨h5,ho5,rfl⟩
   refine zaR ?_
   exact ⟨hx,_,zsb,v5,h5,_,rfl,fin ho5,yJ.out⟩
  ·skip
   refine L_no M M (pv_eql M M) (by decide) ?_
   refine zaA ?_
   refine L_no M M (pv_eql M M) (by decide) ?_
   refine zaA ?_
   refine L_no M M (pv_eql M M) (by decide) ?_
   refine zaG ?_
   refine zX M M (zQ M M M) (number12_spec w0 b1 _) ?_
   rintro _ _ ⟨rfl,rfl⟩
   rw [show offL (UInt8.toNat 97)=10 from rfl]
   refine zaL ?_
   refine zX M M (zQ M M M) (putInt_spec w0 h vo pp m.part ho.rdh (by omega)) ?_
   rintro v5 _ ⟨h5,ho5,rfl⟩
   refine zaR ?_
   exact ⟨hx,_,zsb,v5,h5,_,rfl,fin ho5,yJ.out⟩
  ·skip
   refine L_no M M (pv_eql M M) (by decide) ?_
   refine zaA ?_
   refine L_no M M (pv_eql M M) (by decide) ?_
   refine zaA ?_
   refine L_no M M (pv_eql M M) (by decide) ?_
   refine zaG ?_
   refine zX M M (zQ M M M) (number12_spec w0 b1 _) ?_
   rintro _ _ ⟨rfl,rfl⟩
   rw [show offL (UInt8.toNat 98)=11 from rfl]
   refine zaL ?_
   refine zX M M (zQ M M M) (putInt_spec w0 h vo pp m.ballot ho.rdh (by omega)) ?_
   rintro v5 _ ⟨h5,ho5,rfl⟩
   refine zaR ?_
   exact ⟨hx,_,zsb,v5,h5,_,rfl,fin ho5,yJ.out⟩
  ·skip
   refine L_no M M (pv_eql M M) (by decide) ?_
   refine zaA ?_
   refine L_no M M (pv_eql M M) (by decide) ?_
   refine zaA ?_
   refine L_no M M (pv_eql M M) (by decide) ?_
   refine zaG ?_
   refine zX M M (zQ M M M) (number12_spec w0 b1 _) ?_
   rintro _ _ ⟨rfl,rfl⟩
   rw [show offL (UInt8.toNat 118)=12 from rfl]
   refine zaL ?_
   refine zX M M (zQ M M M) (putInt_spec w0 h vo pp m.value ho.rdh (by omega)) ?_
   rintro v5 _ ⟨h5,ho5,rfl⟩
   refine zaR ?_
   exact ⟨hx,_,zsb,v5,h5,_,rfl,fin ho5,yJ.out⟩
 have hkl:k=l.length:=by omega
 subst hkl
 rw [List.take_length] at ho
 rw [← hput] at ho
 refine L_eff M M (ev_next_end M (by omega)) ?_
 rintro _ _ ⟨rfl,rfl⟩
 refine zbA ?_
 have hpb:(putM m).length≤500000:=by have:=hpre l.length; rwa [List.take_length,← hput] at this
 refine zX M M (zQ M M M) (framePut_spec w0 h vo (putM m) ho.rdh (by omega)) ?_
 rintro _ _ (⟨g1,rfl,rfl⟩|⟨g1,u,h5,rfl,ho5,rfl⟩)
 ·refine zaE ?_
  exact ⟨[_,_],X,_,⟨rfl,rfl,trivial⟩,.inr (.inl ⟨rfl,g1,rfl,rfl⟩),yJ.out⟩
 ·refine zaE ?_
  exact ⟨[_,_],X+h5,_,⟨rfl,rfl,trivial⟩,.inr (.inr ⟨rfl,by omega,u,h5,rfl,ho5,rfl⟩),yJ.out⟩
structure Ans where
 code:Int
 txn:Int
 data:List Bt
deriving DecidableEq
def sumB (n:Nat) (l:List Ent):Nat:=(l.map (fun e=>min e.data.length (n+1))).sum
def bigEF (l:List Ent) (i n:Nat):Bool:=decide (i<l.length)||decide (n<sumB n l)
theorem sumB_take {l:List Ent} {k n:Nat} (h:k<l.length):sumB n (l.take (k+1))=sumB n (l.take k)+min l[k].data.length (n+1):=by
 unfold sumB
 rw [List.take_succ_eq_append_getElem h,List.map_append,List.sum_append]; simp
theorem sumB_le (n:Nat) (l:List Ent) (k:Nat):sumB n (l.take k)≤sumB n l:=by
 unfold sumB
 conv=>rhs; rw [← List.take_append_drop k l,List.map_append,List.sum_append]
 omega
def bigMF (m:Msg) (i n:Nat):Bool:=bigEF m.entries i n||decide (n<m.data.length)
def entG (s:RS):Ent × RS:=(⟨intV s,intV (intS s),blobV (intS (intS s))⟩,blobS (intS (intS s)))
def entsOk (s:RS):Bool:=decide (0≤intV s∧intV s≤((intS s).left.length:Int) / 24)
def entsV (s:RS):List Ent:=if entsOk s=true then (many entG (intV s).toNat (intS s)).1 else []
def entsS (s:RS):RS:=if entsOk s=true then (many entG (intV s).toNat (intS s)).2 else intS s
theorem intS_le (s:RS):(intS s).left.length≤s.left.length:=takeS_len s 8
theorem blobS_le (s:RS):(blobS s).left.length≤s.left.length:=Nat.le_trans (takeS_len _ _) (takeS_len _ _)
theorem entG_le (s:RS):(entG s).2.left.length≤s.left.length:=Nat.le_trans (blobS_le _) (Nat.le_trans (intS_le _) (intS_le _))
theorem entries_spec (w0:World) (D:Hp) (b:Nat) (s:RS) (h:Hp) (hr:RdrAt w0 D b s h) (hl:s.left.length≤1000000000000) :
  Spec Tryz.prog w0 89 [.pointer (some ⟨b,0,none⟩)] (D+h) (fun r h'=>∃ u h2 ho,r=.tuple #[u,.bool (entsOk s&&!(entsS s).bad)]∧OwL w0 D (entsV s) u ho∧RdrAt w0 D b (entsS s) h2∧D+h2+ho=h'):=by
 have hl1:=intS_le s
 have no:∀ h1,entsOk s=false→RdrAt w0 D b (intS s) h1→∃ u h2 ho,Value.tuple #[.slice none 0 0,.bool false]=.tuple #[u,.bool (entsOk s&&!(entsS s).bad)]∧OwL w0 D (entsV s) u ho∧RdrAt w0 D b (entsS s) h2∧D+h2+ho=D+h1:=fun h1 he hr1=>by
  refine ⟨.slice none 0 0,h1,0,by rw [he]; rfl,?_,?_,by rw [yA]⟩
  ·unfold entsV; rw [if_neg (by rw [he]; simp)]; exact OwL.nil _ _
  ·unfold entsS; rw [if_neg (by rw [he]; simp)]; exact hr1
 refine zN Tryz.func89 M Tryz.ntmps89 Tryz.results89 M fun fr=>?_
 refine zaC ?_
 refine zX M M (zQ M M M) (getInt_spec w0 D b s h hr hl) ?_
 rintro _ _ ⟨h1,rfl,hr1,rfl⟩
 refine zaC ?_
 refine yF M M (pv_lss M M) (fun n1=>?_) (fun n1=>?_)
 ·have he:entsOk s=false:=decide_eq_false (fun h=>by omega)
  refine zbS ?_
  exact ⟨[_,_],D+h1,_,⟨rfl,rfl,trivial⟩,no h1 he hr1,yJ.out⟩
 repeat (refine zK M M M ?_)
 refine zX M M (zQ M M M) (left02_spec w0 D b _ h1 hr1) ?_
 rintro _ _ ⟨rfl,rfl⟩
 refine yG M M (pv_quo_nn M M (by omega) (by omega) (by omega)) ?_
 refine yF M M (pv_gtr M M) (fun n2=>?_) (fun n2=>?_)
 ·have he:entsOk s=false:=decide_eq_false (fun h=>by omega)
  refine zaB ?_
  exact ⟨[_,_],D+h1,_,⟨rfl,rfl,trivial⟩,no h1 he hr1,yJ.out⟩
 have he:entsOk s=true:=decide_eq_true ⟨by omega,by omega⟩
 clear no
 obtain ⟨k,hk⟩:=Int.eq_ofNat_of_zero_le (show 0≤intV s by omega)
 have hkl:k≤1000000000000:=by omega
 have hv:entsV s=(many entG k (intS s)).1:=by unfold entsV; rw [if_pos he,hk,Int.toNat_natCast]
 have hss:entsS s=(many entG k (intS s)).2:=by unfold entsS; rw [if_pos he,hk,Int.toNat_natCast]
 rw [he,hv,hss,hk]
 generalize intS s=s1 at hl1 hr1
 clear n1 n2 he hv hss hk
 refine zbY ?_
 refine hold_count k (fun j g L=>∃ (vo:Value) (h2 h5 R:Hp),g=[(0,.pointer (some ⟨b,0,none⟩)),(5,vo),(17,.int .i64 k),(18,.int .i64 j)] ∧
   OwL w0 D (many entG j s1).1 vo h2∧RdrAt w0 D b (many entG j s1).2 h5∧L=D+h5+h2+fr+R) _
  ⟨.slice none 0 0,0,h1,_,rfl,OwL.nil _ _,hr1,by simp only [yA]; exact yJ.out⟩ zsb ?_
 rintro j g L hj ⟨vo,h2,h5,R,rfl,ho,hr5,rfl⟩
 have hml:=many_len (f:=entG) entG_le j s1
 have hmn:=many_length entG j s1
 refine zaH ?_
 refine yF M M (pv_lss M M) (fun n3=>?_) (fun n3=>?_)
 ·have hxj:j<k:=by omega
  have hstep:many entG (j+1) s1=((many entG j s1).1++[(entG (many entG j s1).2).1],(entG (many entG j s1).2).2):=rfl
  have hb1:=intS_le (many entG j s1).2
  have hb2:=intS_le (intS (many entG j s1).2)
  generalize hs2:(many entG j s1).2=s2 at hr5 hml hb1 hb2 hstep
  refine zbB ?_
  refine zX M M (zQ M M M) (getInt_spec w0 D b _ h5 hr5 (by omega)) ?_
  rintro _ _ ⟨h6,rfl,hr6,rfl⟩
  repeat (refine zK M M M ?_)
  refine zX M M (zQ M M M) (getInt_spec w0 D b _ h6 hr6 (by omega)) ?_
  rintro _ _ ⟨h7,rfl,hr7,rfl⟩
  repeat (refine zK M M M ?_)
  refine zX M M (zQ M M M) (getBlob_spec w0 D b _ h7 hr7 (by omega)) ?_
  rintro _ _ ⟨a8,c8,h8,rfl,hrd,hr8,rfl⟩
  repeat (first|refine L_build (vs:=[_,_,_]) (cells:=[_,_,_]) M M M M ?_|refine L_bs (vs:=[_]) (cells:=[_,_,_]) M M M M M M (fun _=>?_))
  have hnew:Rep.rd w0 D (entG s2).1 [.int .i64 (intV s2),.int .i64 (intV (intS s2)),.slice a8 (blobV (intS (intS s2))).length c8]:=⟨a8,c8,rfl,hrd⟩
  refine L_eff M M (ev_appendL (X:=D) (ns:=[(entG s2).1]) (h:=h2) M M ho (rd_one M) (All2.one hnew) M M M M M (by rw [hmn,List.length_singleton]; omega)) ?_
  rintro v9 _ ⟨h9,ho9,rfl⟩
  refine zaI ?_
  exact ⟨hxj,_,zsb,v9,h9,h8,_,rfl,by rw [hstep]; exact ho9,by rw [hstep]; exact hr8,yJ.out⟩
 ·obtain rfl:j=k:=by omega
  refine zbA ?_
  refine zX M M (zQ M M M) (bad02_spec w0 D b _ h5 hr5) ?_
  rintro _ _ ⟨rfl,rfl⟩
  refine yG M M (pv_not M) ?_
  refine zaE ?_
  exact ⟨[_,_],D+h5+h2,_,⟨rfl,rfl,trivial⟩,⟨vo,h5,h2,rfl,ho,hr5,rfl⟩,yJ.out⟩
def stepR (p:Msg × RS) (f:Nat):Option (Msg × RS) :=
 if f=111 then (if intV p.2=0∨intV p.2=1 then some ({ p.1 with ok:=decide (intV p.2=1) },intS p.2) else none)
 else if f=101 then (if (entsOk p.2&&!(entsS p.2).bad)=true then some ({ p.1 with entries:=entsV p.2 },entsS p.2) else none)
 else if f=100 then some ({ p.1 with data:=blobV p.2 },blobS p.2)
 else if f=103 then some ({ p.1 with group:=intV p.2 },intS p.2) else if f=116 then some ({ p.1 with term:=intV p.2 },intS p.2) else if f=105 then some ({ p.1 with index:=intV p.2 },intS p.2) else if f=112 then some ({ p.1 with prev:=intV p.2 },intS p.2) else if f=99 then some ({ p.1 with commit:=intV p.2 },intS p.2) else if f=114 then some ({ p.1 with round:=intV p.2 },intS p.2) else if f=115 then some ({ p.1 with seq:=intV p.2 },intS p.2) else if f=120 then some ({ p.1 with txn:=intV p.2 },intS p.2) else if f=97 then some ({ p.1 with part:=intV p.2 },intS p.2) else if f=98 then some ({ p.1 with ballot:=intV p.2 },intS p.2) else some ({ p.1 with value:=intV p.2 },intS p.2)
def readR :List UInt8→Msg × RS→Option (Msg × RS)
 | [],p=>some p
 | f::l,p=>match stepR p f.toNat with
  | none=>none
  | some q=>readR l q
theorem readR_app :∀ (l m:List UInt8) (p:Msg × RS),readR (l++m) p=(readR l p).bind (readR m)
 | [],m,p=>rfl
 | f::l,m,p=>by
  simp only [List.cons_append,readR]
  cases stepR p f.toNat with
  | none=>rfl
  | some q=>exact readR_app l m q
theorem readR_take {l:List UInt8} {k:Nat} {p q:Msg × RS} (h:k<l.length) (hq:readR (l.take k) p=some q):readR (l.take (k+1)) p=stepR q l[k].toNat:=by
 rw [List.take_succ_eq_append_getElem h,readR_app,hq]
 simp only [Option.bind_some,readR]
 cases stepR q l[k].toNat<;>rfl
theorem readR_none {l:List UInt8} {k:Nat} {p q:Msg × RS} (h:k<l.length) (hq:readR (l.take k) p=some q) (hn:stepR q l[k].toNat=none):readR l p=none:=by
 have h1:=readR_take h hq
 rw [hn] at h1
 rw [← List.take_append_drop (k+1) l,readR_app,h1]; rfl
def readOk (l:List UInt8) (p:Msg × RS):Bool:=match readR l p with
 | none=>false
 | some q=>decide (endV q.2=0)
theorem entsS_le (s:RS):(entsS s).left.length≤s.left.length:=by
 unfold entsS
 split
 ·exact Nat.le_trans (many_len (f:=entG) entG_le _ _) (intS_le s)
 ·exact intS_le s
theorem zbL {G G' : Prop} (h : G') (f : Zh G'→G:=by intro h; (repeat (first|refine zF ?_|refine zB ?_|refine zE ?_|refine zK M M M ?_|refine zP ?_|refine zI M ?_|refine L_st M M M (c':=[_,_,_,_,_,_,_,_,_,_,_,_,_,_,_,_,_]) M M M M ?_)); exact h.o) : G:=f ⟨h⟩
theorem zeI {G G' : Prop} (h : G') (f : Zh G'→G:=by intro h; (repeat (first|refine zF ?_|refine zB ?_|refine zE ?_|refine zK M M M ?_|refine zY M M M M M ?_|refine zM ?_|refine zJ M ?_|refine L_st M M M (c':=[_,_,_,_,_,_,_,_,_,_,_,_,_,_,_,_,_]) M M M M ?_)); exact h.o) : G:=f ⟨h⟩
theorem zdM {G G' : Prop} (h : G') (f : Zh G'→G:=by intro h; (repeat (first|refine zF ?_|refine zB ?_|refine zE ?_|refine zK M M M ?_|refine zY M M M M M ?_|refine zP ?_|refine zI M ?_|refine L_st M M M (c':=[_,_,_,_,_,_,_,_,_,_,_,_,_,_,_,_,_]) M M M M ?_)); exact h.o) : G:=f ⟨h⟩
theorem read12_spec (w0:World) (D:Hp) (b bm:Nat) (m:Msg) (s:RS) (h:Hp) (a a2:Option Addr) (c c2:Nat) (hr:RdrAt w0 D b s h) (hl:s.left.length≤1000000000000) (he:RdL w0 D (.slice a m.entries.length c) m.entries) (hd:RdL w0 D (.slice a2 m.data.length c2) m.data) :
  Spec Tryz.prog w0 42 [.pointer (some ⟨bm,0,none⟩),.pointer (some ⟨b,0,none⟩)] (pt bm (.cells (cellsM m (.slice a m.entries.length c) (.slice a2 m.data.length c2)).toArray 55 (0,0))+(D+h))
   (fun r h'=>∃ (m':Msg) (s':RS) (a a2:Option Addr) (c c2:Nat) (G hr:Hp),r=.bool (readOk (fldsM m.kind) (m,s))∧(∀ q,readR (fldsM m.kind) (m,s)=some q→q=(m',s')) ∧
    RdL w0 (D+G) (.slice a m'.entries.length c) m'.entries∧RdL w0 (D+G) (.slice a2 m'.data.length c2) m'.data∧RdrAt w0 D b s' hr ∧
    pt bm (.cells (cellsM m' (.slice a m'.entries.length c) (.slice a2 m'.data.length c2)).toArray 55 (0,0))+(D+hr+G)=h'):=by
 refine zN Tryz.func42 M Tryz.ntmps42 Tryz.results42 M fun fr=>?_
 refine zbF ?_
 refine zX M M (zQ M M M) (fields_spec w0 m.kind) ?_
 rintro _ _ ⟨rfl,rfl⟩
 skip
 refine L_eff M M (ev_range M) ?_
 rintro _ _ ⟨b14,rfl,rfl⟩
 repeat (first|refine zR ?_|refine zE ?_)
 have hin:=fldsM_in m.kind
 have h7:=fldsM_len m.kind
 generalize fldsM m.kind=l at hin h7
 have ret:∀ (m2:Msg) (s2:RS) (a a2:Option Addr) (c c2:Nat) (G h2:Hp),readR l (m,s)=none→RdL w0 (D+G) (.slice a m2.entries.length c) m2.entries→RdL w0 (D+G) (.slice a2 m2.data.length c2) m2.data→RdrAt w0 D b s2 h2 →
   ∃ (m':Msg) (s':RS) (a3 a4:Option Addr) (c3 c4:Nat) (G' hr':Hp),Value.bool false=.bool (readOk l (m,s))∧(∀ q,readR l (m,s)=some q→q=(m',s')) ∧
   RdL w0 (D+G') (.slice a3 m'.entries.length c3) m'.entries∧RdL w0 (D+G') (.slice a4 m'.data.length c4) m'.data∧RdrAt w0 D b s' hr' ∧
   pt bm (.cells (cellsM m' (.slice a3 m'.entries.length c3) (.slice a4 m'.data.length c4)).toArray 55 (0,0))+(D+hr'+G')=pt bm (.cells (cellsM m2 (.slice a m2.entries.length c) (.slice a2 m2.data.length c2)).toArray 55 (0,0))+(D+h2+G) :=
  fun m2 s2 a a2 c c2 G h2 hn he hd hr=>⟨m2,s2,a,a2,c,c2,G,h2,by unfold readOk; rw [hn],fun q hq=>(by rw [hn] at hq; cases hq),he,hd,hr,rfl⟩
 refine hold_count l.length (fun k g L=>∃ (m1:Msg) (s1:RS) (a a2:Option Addr) (c c2:Nat) (G h1 R:Hp),g=[(0,.pointer (some ⟨bm,0,none⟩)),(1,.pointer (some ⟨b,0,none⟩)),(14,.pointer (some ⟨b14,0,none⟩))] ∧
  readR (l.take k) (m,s)=some (m1,s1)∧s1.left.length≤s.left.length∧RdL w0 (D+G) (.slice a m1.entries.length c) m1.entries∧RdL w0 (D+G) (.slice a2 m1.data.length c2) m1.data∧RdrAt w0 D b s1 h1 ∧
  L=pt b14 (.stringIter ⟨l.toArray⟩ k)+(pt bm (.cells (cellsM m1 (.slice a m1.entries.length c) (.slice a2 m1.data.length c2)).toArray 55 (0,0))+(D+h1+(G+fr)))+R) _
  ⟨m,s,a,a2,c,c2,0,h,0,rfl,rfl,Nat.le_refl _,he.mono M,hd.mono M,hr,by simp only [yA,hzero_add]; ac_rfl⟩ zsb ?_
 clear he hd hr
 rintro k g L hk ⟨m1,s1,a,a2,c,c2,G,h1,R,rfl,hrk,hsl,he,hd,hr,rfl⟩
 refine zaH ?_
 by_cases hx:k<l.length
 ·have hfm:=hin _ (List.getElem_mem hx)
  refine L_eff M M (ev_next M hx (letter_small hfm) (by omega)) ?_
  rintro _ _ ⟨rfl,rfl⟩
  have hrt:=readR_take hx hrk
  have hrn:=fun hn=>readR_none hx hrk hn
  have hlc:=letter_cases hfm
  generalize l[k]=fe at hrt hrn hlc
  refine zbB ?_
  rcases hlc with rfl|rfl|rfl|rfl|rfl|rfl|rfl|rfl|rfl|rfl|rfl|rfl|rfl|rfl
  ·skip
   refine L_yes M M (pv_eql M M) (by decide) ?_
   refine zaY ?_
   have hil:=intS_le s1
   refine zX M M (zQ M M M) (getInt_spec w0 D b s1 h1 hr (by omega)) ?_
   rintro _ _ ⟨h2,rfl,hr2,rfl⟩
   have hst:stepR (m1,s1) (UInt8.toNat 111)=if intV s1=0∨intV s1=1 then some ({ m1 with ok:=decide (intV s1=1) },intS s1) else none:=rfl
   refine zcN ?_
   refine yF M M (pv_eql M M) (fun g1=>?_) (fun g1=>?_)
   ·rw [if_pos (.inr g1),decide_eq_true g1] at hst
    repeat (refine zK M M M ?_)
    refine L_no M M (pv_eql M M) (by omega) ?_
    repeat (refine zK M M M ?_)
    refine L_yes M M (pv_eql M M) g1 ?_
    refine zdM ?_
    exact ⟨hx,_,zsb,{m1 with ok:=true},intS s1,a,a2,c,c2,G,h2,_,rfl,by rw [hrt]; exact hst,by omega,he,hd,hr2,by
     show _=pt b14 _+(pt bm (.cells (cellsM {m1 with ok:=true} (.slice a (m1.entries).length c) (.slice a2 (m1.data).length c2)).toArray _ (0,0))+(D+h2+(G+fr)))+_
     exact yJ.out⟩
   ·repeat (refine zK M M M ?_)
    refine yF M M (pv_eql M M) (fun g2=>?_) (fun g2=>?_)
    ·rw [if_pos (.inl g2),decide_eq_false g1] at hst
     repeat (first|refine zF ?_|refine zB ?_|refine zE ?_|refine zK M M M ?_|refine zY M M M M M ?_|refine L_skip M M ?_|refine zP ?_|refine zI M ?_|refine L_st M M M (c':=[_,_,_,_,_,_,_,_,_,_,_,_,_,_,_,_,_]) M M M M ?_)
     exact ⟨hx,_,zsb,{m1 with ok:=false},intS s1,a,a2,c,c2,G,h2,_,rfl,by rw [hrt]; exact hst,by omega,he,hd,hr2,by
      show _=pt b14 _+(pt bm (.cells (cellsM {m1 with ok:=false} (.slice a (m1.entries).length c) (.slice a2 (m1.data).length c2)).toArray _ (0,0))+(D+h2+(G+fr)))+_
      exact yJ.out⟩
    ·rw [if_neg (fun h=>h.elim g2 g1)] at hst
     repeat (refine zK M M M ?_)
     refine L_no M M (pv_eql M M) g1 ?_
     refine zeI ?_
     exact ⟨[_],pt bm (.cells (cellsM { m1 with ok:=false } (.slice a m1.entries.length c) (.slice a2 m1.data.length c2)).toArray 55 (0,0))+(D+h2+G),_,⟨rfl,trivial⟩,ret { m1 with ok:=false } _ a a2 c c2 G h2 (hrn hst) he hd hr2,yJ.out⟩
  ·skip
   refine L_no M M (pv_eql M M) (by decide) ?_
   refine zaA ?_
   refine L_yes M M (pv_eql M M) (by decide) ?_
   refine zaU ?_
   refine zX M M (zQ M M M) (entries_spec w0 D b s1 h1 hr (by omega)) ?_
   rintro _ _ ⟨u,h2,ho,rfl,ho3,hr2,rfl⟩
   obtain ⟨a3,c3,rfl⟩:=ho3.shape
   have hst:stepR (m1,s1) (UInt8.toNat 101)=if (entsOk s1&&!(entsS s1).bad)=true then some ({ m1 with entries:=entsV s1 },entsS s1) else none:=rfl
   have hle:=entsS_le s1
   have he3:RdL w0 (D+(G+ho)) (.slice a3 (entsV s1).length c3) (entsV s1):=ho3.rd0.mono (R:=G) (by ac_rfl)
   have hd3:RdL w0 (D+(G+ho)) (.slice a2 m1.data.length c2) m1.data:=hd.mono (R:=ho) (by ac_rfl)
   cases hk2:(entsOk s1&&!(entsS s1).bad)
   ·rw [if_neg (by rw [hk2]; simp)] at hst
    refine zeI ?_
    exact ⟨[_],pt bm (.cells (cellsM { m1 with entries:=entsV s1 } (.slice a3 (entsV s1).length c3) (.slice a2 m1.data.length c2)).toArray 55 (0,0))+(D+h2+(G+ho)),_,⟨rfl,trivial⟩,ret { m1 with entries:=entsV s1 } _ a3 a2 c3 c2 (G+ho) h2 (hrn hst) he3 hd3 hr2,yJ.out⟩
   ·rw [if_pos hk2] at hst
    refine zdM ?_
    exact ⟨hx,_,zsb,{ m1 with entries:=entsV s1 },entsS s1,a3,a2,c3,c2,G+ho,h2,_,rfl,by rw [hrt]; exact hst,by omega,he3,hd3,hr2,by
     show _=pt b14 _+(pt bm (.cells (cellsM { m1 with entries:=entsV s1 } (.slice a3 (entsV s1).length c3) (.slice a2 (m1.data).length c2)).toArray _ (0,0))+(D+h2+(G+ho+fr)))+_
     exact yJ.out⟩
  ·skip
   refine L_no M M (pv_eql M M) (by decide) ?_
   refine zaA ?_
   refine L_no M M (pv_eql M M) (by decide) ?_
   refine zaA ?_
   refine L_yes M M (pv_eql M M) (by decide) ?_
   refine zaU ?_
   refine zX M M (zQ M M M) (getBlob_spec w0 D b s1 h1 hr (by omega)) ?_
   rintro _ _ ⟨a3,c3,h2,rfl,hrd,hr2,rfl⟩
   have hst:stepR (m1,s1) (UInt8.toNat 100)=some ({ m1 with data:=blobV s1 },blobS s1):=rfl
   have hle:=blobS_le s1
   refine zdM ?_
   exact ⟨hx,_,zsb,{ m1 with data:=blobV s1 },blobS s1,a,a3,c,c3,G,h2,_,rfl,by rw [hrt]; exact hst,by omega,he,hrd.mono M,hr2,by
     show _=pt b14 _+(pt bm (.cells (cellsM { m1 with data:=blobV s1 } (.slice a (m1.entries).length c) (.slice a3 (blobV s1).length c3)).toArray _ (0,0))+(D+h2+(G+fr)))+_
     exact yJ.out⟩
  ·skip
   refine L_no M M (pv_eql M M) (by decide) ?_
   refine zaA ?_
   refine L_no M M (pv_eql M M) (by decide) ?_
   refine zaA ?_
   refine L_no M M (pv_eql M M) (by decide) ?_
   refine zaG ?_
   refine zX M M (zQ M M M) (number12_spec w0 bm _) ?_
   rintro _ _ ⟨rfl,rfl⟩
   rw [show offL (UInt8.toNat 103)=3 from rfl]
   repeat (refine zK M M M ?_)
   refine zX M M (zQ M M M) (getInt_spec w0 D b s1 h1 hr (by omega)) ?_
   rintro _ _ ⟨h2,rfl,hr2,rfl⟩
   have hst:stepR (m1,s1) (UInt8.toNat 103)=some ({ m1 with group:=intV s1 },intS s1):=rfl
   have hle:=intS_le s1
   refine zbL ?_
   exact ⟨hx,_,zsb,{ m1 with group:=intV s1 },intS s1,a,a2,c,c2,G,h2,_,rfl,by rw [hrt]; exact hst,by omega,he,hd,hr2,by
     show _=pt b14 _+(pt bm (.cells (cellsM { m1 with group:=intV s1 } (.slice a (m1.entries).length c) (.slice a2 (m1.data).length c2)).toArray _ (0,0))+(D+h2+(G+fr)))+_
     exact yJ.out⟩
  ·skip
   refine L_no M M (pv_eql M M) (by decide) ?_
   refine zaA ?_
   refine L_no M M (pv_eql M M) (by decide) ?_
   refine zaA ?_
   refine L_no M M (pv_eql M M) (by decide) ?_
   refine zaG ?_
   refine zX M M (zQ M M M) (number12_spec w0 bm _) ?_
   rintro _ _ ⟨rfl,rfl⟩
   rw [show offL (UInt8.toNat 116)=4 from rfl]
   repeat (refine zK M M M ?_)
   refine zX M M (zQ M M M) (getInt_spec w0 D b s1 h1 hr (by omega)) ?_
   rintro _ _ ⟨h2,rfl,hr2,rfl⟩
   have hst:stepR (m1,s1) (UInt8.toNat 116)=some ({ m1 with term:=intV s1 },intS s1):=rfl
   have hle:=intS_le s1
   refine zbL ?_
   exact ⟨hx,_,zsb,{ m1 with term:=intV s1 },intS s1,a,a2,c,c2,G,h2,_,rfl,by rw [hrt]; exact hst,by omega,he,hd,hr2,by
     show _=pt b14 _+(pt bm (.cells (cellsM { m1 with term:=intV s1 } (.slice a (m1.entries).length c) (.slice a2 (m1.data).length c2)).toArray _ (0,0))+(D+h2+(G+fr)))+_
     exact yJ.out⟩
  ·skip
   refine L_no M M (pv_eql M M) (by decide) ?_
   refine zaA ?_
   refine L_no M M (pv_eql M M) (by decide) ?_
   refine zaA ?_
   refine L_no M M (pv_eql M M) (by decide) ?_
   refine zaG ?_
   refine zX M M (zQ M M M) (number12_spec w0 bm _) ?_
   rintro _ _ ⟨rfl,rfl⟩
   rw [show offL (UInt8.toNat 105)=5 from rfl]
   repeat (refine zK M M M ?_)
   refine zX M M (zQ M M M) (getInt_spec w0 D b s1 h1 hr (by omega)) ?_
   rintro _ _ ⟨h2,rfl,hr2,rfl⟩
   have hst:stepR (m1,s1) (UInt8.toNat 105)=some ({ m1 with index:=intV s1 },intS s1):=rfl
   have hle:=intS_le s1
   refine zbL ?_
   exact ⟨hx,_,zsb,{ m1 with index:=intV s1 },intS s1,a,a2,c,c2,G,h2,_,rfl,by rw [hrt]; exact hst,by omega,he,hd,hr2,by
     show _=pt b14 _+(pt bm (.cells (cellsM { m1 with index:=intV s1 } (.slice a (m1.entries).length c) (.slice a2 (m1.data).length c2)).toArray _ (0,0))+(D+h2+(G+fr)))+_
     exact yJ.out⟩
  ·skip
   refine L_no M M (pv_eql M M) (by decide) ?_
   refine zaA ?_
   refine L_no M M (pv_eql M M) (by decide) ?_
   refine zaA ?_
   refine L_no M M (pv_eql M M) (by decide) ?_
   refine zaG ?_
   refine zX M M (zQ M M M) (number12_spec w0 bm _) ?_
   rintro _ _ ⟨rfl,rfl⟩
   rw [show offL (UInt8.toNat 112)=6 from rfl]
   repeat (refine zK M M M ?_)
   refine zX M M (zQ M M M) (getInt_spec w0 D b s1 h1 hr (by omega)) ?_
   rintro _ _ ⟨h2,rfl,hr2,rfl⟩
   have hst:stepR (m1,s1) (UInt8.toNat 112)=some ({ m1 with prev:=intV s1 },intS s1):=rfl
   have hle:=intS_le s1
   refine zbL ?_
   exact ⟨hx,_,zsb,{ m1 with prev:=intV s1 },intS s1,a,a2,c,c2,G,h2,_,rfl,by rw [hrt]; exact hst,by omega,he,hd,hr2,by
     show _=pt b14 _+(pt bm (.cells (cellsM { m1 with prev:=intV s1 } (.slice a (m1.entries).length c) (.slice a2 (m1.data).length c2)).toArray _ (0,0))+(D+h2+(G+fr)))+_
     exact yJ.out⟩
  ·skip
   refine L_no M M (pv_eql M M) (by decide) ?_
   refine zaA ?_
   refine L_no M M (pv_eql M M) (by decide) ?_
   refine zaA ?_
   refine L_no M M (pv_eql M M) (by decide) ?_
   refine zaG ?_
   refine zX M M (zQ M M M) (number12_spec w0 bm _) ?_
   rintro _ _ ⟨rfl,rfl⟩
   rw [show offL (UInt8.toNat 99)=7 from rfl]
   repeat (refine zK M M M ?_)
   refine zX M M (zQ M M M) (getInt_spec w0 D b s1 h1 hr (by omega)) ?_
   rintro _ _ ⟨h2,rfl,hr2,rfl⟩
   have hst:stepR (m1,s1) (UInt8.toNat 99)=some ({ m1 with commit:=intV s1 },intS s1):=rfl
   have hle:=intS_le s1
   refine zbL ?_
   exact ⟨hx,_,zsb,{ m1 with commit:=intV s1 },intS s1,a,a2,c,c2,G,h2,_,rfl,by rw [hrt]; exact hst,by omega,he,hd,hr2,by
     show _=pt b14 _+(pt bm (.cells (cellsM { m1 with commit:=intV s1 } (.slice a (m1.entries).length c) (.slice a2 (m1.data).length c2)).toArray _ (0,0))+(D+h2+(G+fr)))+_
     exact yJ.out⟩
  ·skip
   refine L_no M M (pv_eql M M) (by decide) ?_
   refine zaA ?_
   refine L_no M M (pv_eql M M) (by decide) ?_
   refine zaA ?_
   refine L_no M M (pv_eql M M) (by decide) ?_
   refine zaG ?_
   refine zX M M (zQ M M M) (number12_spec w0 bm _) ?_
   rintro _ _ ⟨rfl,rfl⟩
   rw [show offL (UInt8.toNat 114)=8 from rfl]
   repeat (refine zK M M M ?_)
   refine zX M M (zQ M M M) (getInt_spec w0 D b s1 h1 hr (by omega)) ?_
   rintro _ _ ⟨h2,rfl,hr2,rfl⟩
   have hst:stepR (m1,s1) (UInt8.toNat 114)=some ({ m1 with round:=intV s1 },intS s1):=rfl
   have hle:=intS_le s1
   refine zbL ?_
   exact ⟨hx,_,zsb,{ m1 with round:=intV s1 },intS s1,a,a2,c,c2,G,h2,_,rfl,by rw [hrt]; exact hst,by omega,he,hd,hr2,by
     show _=pt b14 _+(pt bm (.cells (cellsM { m1 with round:=intV s1 } (.slice a (m1.entries).length c) (.slice a2 (m1.data).length c2)).toArray _ (0,0))+(D+h2+(G+fr)))+_
     exact yJ.out⟩
  ·skip
   refine L_no M M (pv_eql M M) (by decide) ?_
   refine zaA ?_
   refine L_no M M (pv_eql M M) (by decide) ?_
   refine zaA ?_
   refine L_no M M (pv_eql M M) (by decide) ?_
   refine zaG ?_
   refine zX M M (zQ M M M) (number12_spec w0 bm _) ?_
   rintro _ _ ⟨rfl,rfl⟩
   rw [show offL (UInt8.toNat 115)=13 from rfl]
   repeat (refine zK M M M ?_)
   refine zX M M (zQ M M M) (getInt_spec w0 D b s1 h1 hr (by omega)) ?_
   rintro _ _ ⟨h2,rfl,hr2,rfl⟩
   have hst:stepR (m1,s1) (UInt8.toNat 115)=some ({ m1 with seq:=intV s1 },intS s1):=rfl
   have hle:=intS_le s1
   refine zbL ?_
   exact ⟨hx,_,zsb,{ m1 with seq:=intV s1 },intS s1,a,a2,c,c2,G,h2,_,rfl,by rw [hrt]; exact hst,by omega,he,hd,hr2,by
     show _=pt b14 _+(pt bm (.cells (cellsM { m1 with seq:=intV s1 } (.slice a (m1.entries).length c) (.slice a2 (m1.data).length c2)).toArray _ (0,0))+(D+h2+(G+fr)))+_
     exact yJ.out⟩
  ·skip
   refine L_no M M (pv_eql M M) (by decide) ?_
   refine zaA ?_
   refine L_no M M (pv_eql M M) (by decide) ?_
   refine zaA ?_
   refine L_no M M (pv_eql M M) (by decide) ?_
   refine zaG ?_
   refine zX M M (zQ M M M) (number12_spec w0 bm _) ?_
   rintro _ _ ⟨rfl,rfl⟩
   rw [show offL (UInt8.toNat 120)=9 from rfl]
   repeat (refine zK M M M ?_)
   refine zX M M (zQ M M M) (getInt_spec w0 D b s1 h1 hr (by omega)) ?_
   rintro _ _ ⟨h2,rfl,hr2,rfl⟩
   have hst:stepR (m1,s1) (UInt8.toNat 120)=some ({ m1 with txn:=intV s1 },intS s1):=rfl
   have hle:=intS_le s1
   refine zbL ?_
   exact ⟨hx,_,zsb,{ m1 with txn:=intV s1 },intS s1,a,a2,c,c2,G,h2,_,rfl,by rw [hrt]; exact hst,by omega,he,hd,hr2,by
     show _=pt b14 _+(pt bm (.cells (cellsM { m1 with txn:=intV s1 } (.slice a (m1.entries).length c) (.slice a2 (m1.data).length c2)).toArray _ (0,0))+(D+h2+(G+fr)))+_
     exact yJ.out⟩
  ·skip
   refine L_no M M (pv_eql M M) (by decide) ?_
   refine zaA ?_
   refine L_no M M (pv_eql M M) (by decide) ?_
   refine zaA ?_
   refine L_no M M (pv_eql M M) (by decide) ?_
   refine zaG ?_
   refine zX M M (zQ M M M) (number12_spec w0 bm _) ?_
   rintro _ _ ⟨rfl,rfl⟩
   rw [show offL (UInt8.toNat 97)=10 from rfl]
   repeat (refine zK M M M ?_)
   refine zX M M (zQ M M M) (getInt_spec w0 D b s1 h1 hr (by omega)) ?_
   rintro _ _ ⟨h2,rfl,hr2,rfl⟩
   have hst:stepR (m1,s1) (UInt8.toNat 97)=some ({ m1 with part:=intV s1 },intS s1):=rfl
   have hle:=intS_le s1
   refine zbL ?_
   exact ⟨hx,_,zsb,{ m1 with part:=intV s1 },intS s1,a,a2,c,c2,G,h2,_,rfl,by rw [hrt]; exact hst,by omega,he,hd,hr2,by
     show _=pt b14 _+(pt bm (.cells (cellsM { m1 with part:=intV s1 } (.slice a (m1.entries).length c) (.slice a2 (m1.data).length c2)).toArray _ (0,0))+(D+h2+(G+fr)))+_
     exact yJ.out⟩
  ·skip
   refine L_no M M (pv_eql M M) (by decide) ?_
   refine zaA ?_
   refine L_no M M (pv_eql M M) (by decide) ?_
   refine zaA ?_
   refine L_no M M (pv_eql M M) (by decide) ?_
   refine zaG ?_
   refine zX M M (zQ M M M) (number12_spec w0 bm _) ?_
   rintro _ _ ⟨rfl,rfl⟩
   rw [show offL (UInt8.toNat 98)=11 from rfl]
   repeat (refine zK M M M ?_)
   refine zX M M (zQ M M M) (getInt_spec w0 D b s1 h1 hr (by omega)) ?_
   rintro _ _ ⟨h2,rfl,hr2,rfl⟩
   have hst:stepR (m1,s1) (UInt8.toNat 98)=some ({ m1 with ballot:=intV s1 },intS s1):=rfl
   have hle:=intS_le s1
   refine zbL ?_
   exact ⟨hx,_,zsb,{ m1 with ballot:=intV s1 },intS s1,a,a2,c,c2,G,h2,_,rfl,by rw [hrt]; exact hst,by omega,he,hd,hr2,by
     show _=pt b14 _+(pt bm (.cells (cellsM { m1 with ballot:=intV s1 } (.slice a (m1.entries).length c) (.slice a2 (m1.data).length c2)).toArray _ (0,0))+(D+h2+(G+fr)))+_
     exact yJ.out⟩
  ·skip
   refine L_no M M (pv_eql M M) (by decide) ?_
   refine zaA ?_
   refine L_no M M (pv_eql M M) (by decide) ?_
   refine zaA ?_
   refine L_no M M (pv_eql M M) (by decide) ?_
   refine zaG ?_
   refine zX M M (zQ M M M) (number12_spec w0 bm _) ?_
   rintro _ _ ⟨rfl,rfl⟩
   rw [show offL (UInt8.toNat 118)=12 from rfl]
   repeat (refine zK M M M ?_)
   refine zX M M (zQ M M M) (getInt_spec w0 D b s1 h1 hr (by omega)) ?_
   rintro _ _ ⟨h2,rfl,hr2,rfl⟩
   have hst:stepR (m1,s1) (UInt8.toNat 118)=some ({ m1 with value:=intV s1 },intS s1):=rfl
   have hle:=intS_le s1
   refine zbL ?_
   exact ⟨hx,_,zsb,{ m1 with value:=intV s1 },intS s1,a,a2,c,c2,G,h2,_,rfl,by rw [hrt]; exact hst,by omega,he,hd,hr2,by
     show _=pt b14 _+(pt bm (.cells (cellsM { m1 with value:=intV s1 } (.slice a (m1.entries).length c) (.slice a2 (m1.data).length c2)).toArray _ (0,0))+(D+h2+(G+fr)))+_
     exact yJ.out⟩
 have hkl:k=l.length:=by omega
 subst hkl
 rw [List.take_length] at hrk
 refine L_eff M M (ev_next_end M (by omega)) ?_
 rintro _ _ ⟨rfl,rfl⟩
 refine zbA ?_
 refine zX M M (zQ M M M) (end02_spec w0 D b s1 h1 hr) ?_
 rintro _ _ ⟨rfl,rfl⟩
 refine yG M M (pv_eql M M) ?_
 refine zaE ?_
 have hro:readOk l (m,s)=decide (endV s1=0):=by unfold readOk; rw [hrk]
 have hpost:∃ (m':Msg) (s':RS) (a3 a4:Option Addr) (c3 c4:Nat) (G' hr':Hp),Value.bool (decide (endV s1=0))=.bool (readOk l (m,s))∧(∀ q,readR l (m,s)=some q→q=(m',s')) ∧
   RdL w0 (D+G') (.slice a3 m'.entries.length c3) m'.entries∧RdL w0 (D+G') (.slice a4 m'.data.length c4) m'.data∧RdrAt w0 D b s' hr' ∧
   pt bm (.cells (cellsM m' (.slice a3 m'.entries.length c3) (.slice a4 m'.data.length c4)).toArray 55 (0,0))+(D+hr'+G')=pt bm (.cells (cellsM m1 (.slice a m1.entries.length c) (.slice a2 m1.data.length c2)).toArray 55 (0,0))+(D+h1+G) :=
  ⟨m1,s1,a,a2,c,c2,G,h1,by rw [hro],fun q hq=>by rw [hrk] at hq; exact (Option.some.inj hq).symm,he,hd,hr,rfl⟩
 exact ⟨[_],pt bm (.cells (cellsM m1 (.slice a m1.entries.length c) (.slice a2 m1.data.length c2)).toArray 55 (0,0))+(D+h1+G),_,⟨rfl,trivial⟩,hpost,yJ.out⟩
def zeroM :Msg:=⟨0,0,0,0,0,0,0,0,0,0,0,0,0,0,false,[],[]⟩
def m0F (s:RS):Msg:=⟨intV s,intV (intS s),intV (intS (intS s)),0,0,0,0,0,0,0,0,0,0,0,false,[],[]⟩
def bodyM (s:RS):Msg × Int :=
 if (intS (intS (intS s))).bad=true then (zeroM,4) else if fldsM (m0F s).kind=[] then (zeroM,13) else
 match readR (fldsM (m0F s).kind) (m0F s,intS (intS (intS s))) with
 | none=>(zeroM,4)
 | some q=>if endV q.2≠0 then (zeroM,4) else if checkM q.1≠0 then (zeroM,checkM q.1) else (q.1,0)
def getM (b:List Bt):Msg × Int:=if (getFr b).2.2≠0 then (zeroM,(getFr b).2.2) else if (getFr b).2.1≠b.length then (zeroM,2) else bodyM ⟨(getFr b).1,false⟩
theorem getFr_len (b:List Bt):(getFr b).1.length≤b.length:=by
 unfold getFr
 split
 ·simp
 split
 ·simp
 split
 ·simp
 split
 ·show ((b.drop 8).take (de4 b)).length≤_; rw [List.length_take,List.length_drop]; omega
 ·simp
theorem entsV_len (s:RS):(entsV s).length≤s.left.length:=by
 unfold entsV
 split
 ·rename_i h
  have h:=of_decide_eq_true h
  have:=intS_le s
  rw [many_length]; omega
 ·simp
theorem blobV_len (s:RS):(blobV s).length≤s.left.length:=Nat.le_trans (takeV_len _ _) (intS_le s)
theorem stepR_len {p q:Msg × RS} {f N:Nat} (h:stepR p f=some q) (h1:p.1.entries.length≤N) (h2:p.1.data.length≤N) (h3:p.2.left.length≤N):q.1.entries.length≤N∧q.1.data.length≤N∧q.2.left.length≤N:=by
 have e1:=Nat.le_trans (intS_le p.2) h3
 have e2:=Nat.le_trans (entsS_le p.2) h3
 have e3:=Nat.le_trans (blobS_le p.2) h3
 have e4:=Nat.le_trans (entsV_len p.2) h3
 have e5:=Nat.le_trans (blobV_len p.2) h3
 unfold stepR at h
 by_cases c111:f=111
 ·rw [if_pos c111] at h
  by_cases d:intV p.2=0∨intV p.2=1
  ·rw [if_pos d] at h
   (simp only [Option.some.injEq] at h; subst h; exact ⟨by assumption,by assumption,by assumption⟩)
  ·rw [if_neg d] at h; cases h
 rw [if_neg c111] at h
 by_cases c101:f=101
 ·rw [if_pos c101] at h
  by_cases d:(entsOk p.2&&!(entsS p.2).bad)=true
  ·rw [if_pos d] at h
   (simp only [Option.some.injEq] at h; subst h; exact ⟨by assumption,by assumption,by assumption⟩)
  ·rw [if_neg d] at h; cases h
 rw [if_neg c101] at h
 by_cases c100:f=100
 ·rw [if_pos c100] at h
  (simp only [Option.some.injEq] at h; subst h; exact ⟨by assumption,by assumption,by assumption⟩)
 rw [if_neg c100] at h
 by_cases c103:f=103
 ·rw [if_pos c103] at h
  (simp only [Option.some.injEq] at h; subst h; exact ⟨by assumption,by assumption,by assumption⟩)
 rw [if_neg c103] at h
 by_cases c116:f=116
 ·rw [if_pos c116] at h
  (simp only [Option.some.injEq] at h; subst h; exact ⟨by assumption,by assumption,by assumption⟩)
 rw [if_neg c116] at h
 by_cases c105:f=105
 ·rw [if_pos c105] at h
  (simp only [Option.some.injEq] at h; subst h; exact ⟨by assumption,by assumption,by assumption⟩)
 rw [if_neg c105] at h
 by_cases c112:f=112
 ·rw [if_pos c112] at h
  (simp only [Option.some.injEq] at h; subst h; exact ⟨by assumption,by assumption,by assumption⟩)
 rw [if_neg c112] at h
 by_cases c99:f=99
 ·rw [if_pos c99] at h
  (simp only [Option.some.injEq] at h; subst h; exact ⟨by assumption,by assumption,by assumption⟩)
 rw [if_neg c99] at h
 by_cases c114:f=114
 ·rw [if_pos c114] at h
  (simp only [Option.some.injEq] at h; subst h; exact ⟨by assumption,by assumption,by assumption⟩)
 rw [if_neg c114] at h
 by_cases c115:f=115
 ·rw [if_pos c115] at h
  (simp only [Option.some.injEq] at h; subst h; exact ⟨by assumption,by assumption,by assumption⟩)
 rw [if_neg c115] at h
 by_cases c120:f=120
 ·rw [if_pos c120] at h
  (simp only [Option.some.injEq] at h; subst h; exact ⟨by assumption,by assumption,by assumption⟩)
 rw [if_neg c120] at h
 by_cases c97:f=97
 ·rw [if_pos c97] at h
  (simp only [Option.some.injEq] at h; subst h; exact ⟨by assumption,by assumption,by assumption⟩)
 rw [if_neg c97] at h
 by_cases c98:f=98
 ·rw [if_pos c98] at h
  (simp only [Option.some.injEq] at h; subst h; exact ⟨by assumption,by assumption,by assumption⟩)
 rw [if_neg c98] at h
 (simp only [Option.some.injEq] at h; subst h; exact ⟨by assumption,by assumption,by assumption⟩)
theorem readR_len {N:Nat}:∀ {l:List UInt8} {p q:Msg × RS},readR l p=some q→p.1.entries.length≤N→p.1.data.length≤N→p.2.left.length≤N→q.1.entries.length≤N∧q.1.data.length≤N∧q.2.left.length≤N
 | [],p,q,h,h1,h2,h3=>by
  simp only [readR,Option.some.injEq] at h; subst h; exact ⟨h1,h2,h3⟩
 | f::l,p,q,h,h1,h2,h3=>by
  simp only [readR] at h
  split at h
  ·cases h
  ·rename_i p2 hs
   obtain ⟨g1,g2,g3⟩:=stepR_len hs h1 h2 h3
   exact readR_len h g1 g2 g3
theorem zbN {G G' : Prop} (h : G') (f : Zh G'→G:=by intro h; (repeat (first|refine zF ?_|refine zB ?_|refine zE ?_|refine zK M M M ?_|refine zM ?_|refine zJ M ?_|refine L_build (vs:=[]) (cells:=[_,_,_,_,_,_,_,_,_,_,_,_,_,_,_,_,_]) M M M M ?_|refine L_stA M (vs:=[_,_,_,_,_,_,_,_,_,_,_,_,_,_,_,_,_]) M M M M (c':=[_,_,_,_,_,_,_,_,_,_,_,_,_,_,_,_,_]) M M ?_)); exact h.o) : G:=f ⟨h⟩
theorem zeJ {G G' : Prop} (h : G') (f : Zh G'→G:=by intro h; (repeat (first|refine zF ?_|refine zB ?_|refine zE ?_|refine zK M M M ?_|refine zP ?_|refine zI M ?_|refine L_ldA M (vs:=[_,_,_,_,_,_,_,_,_,_,_,_,_,_,_,_,_]) M M M M M ?_)); exact h.o) : G:=f ⟨h⟩
theorem zeK {G G' : Prop} (h : G') (f : Zh G'→G:=by intro h; (repeat (first|refine zF ?_|refine zB ?_|refine zE ?_|refine zK M M M ?_|refine zP ?_|refine zM ?_|refine zI M ?_|refine L_ldA M (vs:=[_,_,_,_,_,_,_,_,_,_,_,_,_,_,_,_,_]) M M M M M ?_|refine L_stA M (vs:=[_,_,_,_,_,_,_,_,_,_,_,_,_,_,_,_,_]) M M M M (c':=[_,_,_,_,_,_,_,_,_,_,_,_,_,_,_,_,_]) M M ?_)); exact h.o) : G:=f ⟨h⟩
theorem msgGet_spec (w0:World) (X:Hp) (v:Value) (b:List Bt) (hv:RdL w0 X v b) (hl:b.length≤1000000000) (hcap:∀ ad n c,v=.slice ad n c→n≤c) :
  Spec Tryz.prog w0 19 [v] X (fun r h'=>∃ (a a2:Option Addr) (c c2:Nat) (G:Hp),r=.tuple #[.agg (cellsM (getM b).1 (.slice a (getM b).1.entries.length c) (.slice a2 (getM b).1.data.length c2)).toArray,.int .i64 (getM b).2] ∧
   RdL w0 G (.slice a (getM b).1.entries.length c) (getM b).1.entries∧RdL w0 G (.slice a2 (getM b).1.data.length c2) (getM b).1.data∧X+G=h'):=by
 have no:∀ e:Int,getM b=(zeroM,e)→∃ (a a2:Option Addr) (c c2:Nat) (G:Hp),Value.tuple #[.agg (cellsM zeroM (.slice none 0 0) (.slice none 0 0)).toArray,.int .i64 e]=.tuple #[.agg (cellsM (getM b).1 (.slice a (getM b).1.entries.length c) (.slice a2 (getM b).1.data.length c2)).toArray,.int .i64 (getM b).2] ∧
   RdL w0 G (.slice a (getM b).1.entries.length c) (getM b).1.entries∧RdL w0 G (.slice a2 (getM b).1.data.length c2) (getM b).1.data∧X+G=X:=fun e he=>by
  rw [he]; exact ⟨none,none,0,0,0,rfl,RdL.nil _ _ _,RdL.nil _ _ _,yA _⟩
 have hg:=frameGet_spec w0 X v b hv hl hcap
 have hgl:=getFr_len b
 obtain ⟨av,cv,rfl⟩:=hv.shape
 refine zN Tryz.func19 M Tryz.ntmps19 Tryz.results19 M fun fr=>?_
 repeat (first|refine zF ?_|refine zB ?_|refine zE ?_|refine zK M M M ?_|refine L_alloc (c:=[_,_,_,_,_,_,_,_,_,_,_,_,_,_,_,_,_]) M M M (fun _=>?_))
 rename_i b2
 refine zX M M (zQ M M M) hg ?_
 rintro _ _ ⟨u,h1,rfl,ho1,rfl⟩
 obtain ⟨a1,c1,rfl⟩:=ho1.shape
 have hF:getM b=if (getFr b).2.2≠0 then (zeroM,(getFr b).2.2) else if (getFr b).2.1≠b.length then (zeroM,2) else bodyM ⟨(getFr b).1,false⟩:=rfl
 generalize getFr b=fr1 at hF ho1 hgl
 obtain ⟨p,n,e⟩:=fr1
 simp only at hF ho1 hgl
 refine zaC ?_
 refine yF M M (pv_neq M M) (fun n1=>?_) (fun n1=>?_)
 ·rw [if_pos n1] at hF
  refine zbN ?_
  exact ⟨[_,_],X,_,⟨⟨_,rfl,zL (vs:=[_,_,_,_,_,_,_,_,_,_,_,_,_,_,_,_,_]) M M M⟩,rfl,trivial⟩,no e hF,yJ.out⟩
 rw [if_neg n1] at hF
 refine zcV ?_
 refine yF M M (pv_neq M M) (fun n2=>?_) (fun n2=>?_)
 ·rw [if_pos n2] at hF
  refine zbN ?_
  exact ⟨[_,_],X,_,⟨⟨_,rfl,zL (vs:=[_,_,_,_,_,_,_,_,_,_,_,_,_,_,_,_,_]) M M M⟩,rfl,trivial⟩,no 2 hF,yJ.out⟩
 rw [if_neg n2] at hF
 clear hg n1 n2
 refine zaV ?_
 refine zX M M (zQ M M M) (read02_spec w0 h1 _ p ho1.rdh (by omega)) ?_
 rintro _ _ ⟨br,D,h2,rfl,hr2,rfl⟩
 have hp0:p.length≤1000000000:=by omega
 have e1:=intS_le ⟨p,false⟩
 have e2:=intS_le (intS ⟨p,false⟩)
 have e3:=intS_le (intS (intS ⟨p,false⟩))
 simp only at e1
 refine zaC ?_
 refine zX M M (zQ M M M) (getInt_spec w0 D br _ h2 hr2 (by simp only; omega)) ?_
 rintro _ _ ⟨h3,rfl,hr3,rfl⟩
 repeat (refine zK M M M ?_)
 refine zX M M (zQ M M M) (getInt_spec w0 D br _ h3 hr3 (by omega)) ?_
 rintro _ _ ⟨h4,rfl,hr4,rfl⟩
 repeat (refine zK M M M ?_)
 refine zX M M (zQ M M M) (getInt_spec w0 D br _ h4 hr4 (by omega)) ?_
 rintro _ _ ⟨h5,rfl,hr5,rfl⟩
 unfold bodyM at hF
 generalize hs0:(⟨p,false⟩:RS)=s0 at *
 generalize hs3:intS (intS (intS s0))=s3 at *
 repeat (first|refine zF ?_|refine zR ?_|refine zB ?_|refine zE ?_|refine zK M M M ?_|refine L_build (vs:=[_,_,_]) (cells:=[_,_,_,_,_,_,_,_,_,_,_,_,_,_,_,_,_]) M M M M ?_|refine L_stA M (vs:=[_,_,_,_,_,_,_,_,_,_,_,_,_,_,_,_,_]) M M M M (c':=[_,_,_,_,_,_,_,_,_,_,_,_,_,_,_,_,_]) M M ?_|refine L_alloc (c:=[_,_,_,_,_,_,_,_,_,_,_,_,_,_,_,_,_]) M M M (fun _=>?_))
 rename_i b8
 refine zX M M (zQ M M M) (bad02_spec w0 D br _ h5 hr5) ?_
 rintro _ _ ⟨rfl,rfl⟩
 cases hb:s3.bad
 rotate_left
 ·rw [if_pos hb] at hF
  refine zbN ?_
  exact ⟨[_,_],X,_,⟨⟨_,rfl,zL (vs:=[_,_,_,_,_,_,_,_,_,_,_,_,_,_,_,_,_]) M M M⟩,rfl,trivial⟩,no 4 hF,yJ.out⟩
 rw [if_neg (by rw [hb]; simp)] at hF
 refine zbG ?_
 rw [show (m0F s0).kind=intV s0 from rfl] at hF
 refine zX M M (zQ M M M) (fields_spec w0 (intV s0)) ?_
 rintro _ _ ⟨rfl,rfl⟩
 skip
 refine yF M M (pv_str_nil M M) (fun n3=>?_) (fun n3=>?_)
 ·rw [if_pos n3] at hF
  refine zbN ?_
  exact ⟨[_,_],X,_,⟨⟨_,rfl,zL (vs:=[_,_,_,_,_,_,_,_,_,_,_,_,_,_,_,_,_]) M M M⟩,rfl,trivial⟩,no 13 hF,yJ.out⟩
 rw [if_neg n3] at hF
 refine zaA ?_
 have hrd:=read12_spec w0 D br b8 (m0F s0) s3 h5 none none 0 0 hr5 (by omega) (RdL.nil _ _ _) (RdL.nil _ _ _)
 rw [show (m0F s0).kind=intV s0 from rfl] at hrd
 change Spec _ _ _ _ (pt b8 (.cells (cellsM ⟨intV s0,intV (intS s0),intV (intS (intS s0)),0,0,0,0,0,0,0,0,0,0,0,false,[],[]⟩ (.slice none 0 0) (.slice none 0 0)).toArray 55 (0,0))+(D+h5)) _ at hrd
 refine zX M M (zQ M M M) hrd ?_
 rintro _ _ ⟨m1,s1,a,a2,c,c2,G,h6,rfl,hq,he,hd,hr6,rfl⟩
 cases hok:readOk (fldsM (intV s0)) (m0F s0,s3)
 ·have h4:getM b=(zeroM,4):=by
   unfold readOk at hok
   cases hR:readR (fldsM (intV s0)) (m0F s0,s3) with
   | none=>rw [hR] at hF; exact hF
   | some q =>
    rw [hR] at hF hok
    simp only at hF hok
    rw [if_pos (of_decide_eq_false hok)] at hF
    exact hF
  refine zbN ?_
  exact ⟨[_,_],X,_,⟨⟨_,rfl,zL (vs:=[_,_,_,_,_,_,_,_,_,_,_,_,_,_,_,_,_]) M M M⟩,rfl,trivial⟩,no 4 h4,yJ.out⟩
 have hfin:m1.entries.length≤1000000000∧m1.data.length≤1000000000∧getM b=if checkM m1≠0 then (zeroM,checkM m1) else (m1,0):=by
  unfold readOk at hok
  cases hR:readR (fldsM (intV s0)) (m0F s0,s3) with
  | none=>rw [hR] at hok; cases hok
  | some q =>
   rw [hR] at hF hok
   simp only at hF hok
   obtain rfl:=hq q hR
   rw [if_neg (fun h=>h (of_decide_eq_true hok))] at hF
   obtain ⟨g1,g2,_⟩:=readR_len (N:=1000000000) hR (by simp [m0F]) (by simp [m0F]) (by show s3.left.length≤_; omega)
   exact ⟨g1,g2,hF⟩
 obtain ⟨g1,g2,hF⟩:=hfin
 refine zeJ ?_
 refine zX M M (zQ M M M) (check12_spec w0 (D+G) m1 a a2 c c2 he g1 g2) ?_
 rintro _ _ ⟨rfl,rfl⟩
 refine zaC ?_
 refine yF M M (pv_neq M M) (fun n4=>?_) (fun n4=>?_)
 ·rw [if_pos n4] at hF
  refine zbN ?_
  exact ⟨[_,_],X,_,⟨⟨_,rfl,zL (vs:=[_,_,_,_,_,_,_,_,_,_,_,_,_,_,_,_,_]) M M M⟩,rfl,trivial⟩,no _ hF,yJ.out⟩
 ·rw [if_neg n4] at hF
  refine zeK ?_
  have hpost:∃ (a3 a4:Option Addr) (c3 c4:Nat) (G':Hp),Value.tuple #[.agg (cellsM m1 (.slice a m1.entries.length c) (.slice a2 m1.data.length c2)).toArray,.int .i64 0]=.tuple #[.agg (cellsM (getM b).1 (.slice a3 (getM b).1.entries.length c3) (.slice a4 (getM b).1.data.length c4)).toArray,.int .i64 (getM b).2] ∧
    RdL w0 G' (.slice a3 (getM b).1.entries.length c3) (getM b).1.entries∧RdL w0 G' (.slice a4 (getM b).1.data.length c4) (getM b).1.data∧X+G'=X+(D+G):=by
   rw [hF]; exact ⟨a,a2,c,c2,D+G,rfl,he,hd,rfl⟩
  exact ⟨[_,_],X+(D+G),_,⟨⟨_,rfl,zL (vs:=[_,_,_,_,_,_,_,_,_,_,_,_,_,_,_,_,_]) M M M⟩,rfl,trivial⟩,hpost,yJ.out⟩
end Sl
end Go.Proofs.YtfahijncpmlhjaaGreat
namespace Go.Proofs.YtfahijncpmlhjaaGreat
open Go Go.RowKit
namespace Sl
section
variable {κ α:Type} [DecidableEq κ]
def findP (x:κ):List (κ × α)→Nat→Option (Nat × α)
 | [],_=>none
 | (y,v)::l,i=>if x=y then some (i,v) else findP x l (i+1)
def getA (l:List (κ × α)) (x:κ):Option α:=match l with
 | []=>none
 | (y,v)::l=>if x=y then some v else getA l x
def updA (l:List (κ × α)) (x:κ) (v:α):List (κ × α):=match l with
 | []=>[(x,v)]
 | (y,u)::l=>if x=y then (x,v)::l else (y,u)::updA l x v
theorem findP_get (x:κ):∀ (l:List (κ × α)) (i:Nat),(findP x l i).map (·.2)=getA l x
 | [],_=>rfl
 | (y,v)::l,i=>by
  simp only [findP,getA]
  split
  ·rfl
  ·exact findP_get x l (i+1)
theorem getA_upd (l:List (κ × α)) (x y:κ) (v:α):getA (updA l x v) y=if y=x then some v else getA l y:=by
 induction l with
 | nil=>simp [updA,getA]
 | cons p l ih =>
  obtain ⟨z,u⟩:=p
  simp only [updA]
  split
  ·rename_i h; subst h; simp only [getA]; split<;>simp_all
  ·rename_i h; simp only [getA,ih]
   split
   ·rename_i h2; subst h2; rw [if_neg (fun e=>h e.symm)]
   ·rfl
theorem updA_length (l:List (κ × α)) (x:κ) (v:α):(updA l x v).length≤l.length+1:=by
 induction l with
 | nil=>simp [updA]
 | cons p l ih =>
  obtain ⟨z,u⟩:=p
  simp only [updA]
  split
  ·simp
  ·simp only [List.length_cons]; omega
end
class KeyT (P:Program) (κ:Type) [DecidableEq κ] where
 kt:TypeId
 enc:κ→Value
 check:∀ (e:Bool) (w:World) (x:κ),(Instr.checkKey e 10000 kt (enc x)).run P w=.ok () w
 find:∀ (w:World) (x:κ) (es:List MapEntry) (l:List (κ × Value)),(es.map fun e=>(e.key,e.val))=l.map (fun p=>(enc p.1,p.2))→(Instr.findKey kt (enc x) es).run P w=.ok (findP x l 0) w
 stays:∀ (w:World) (x:κ),(Instr.keyThatStays (enc x) (enc x)).run P w=.ok (enc x) w
section
variable {P:Program} {κ:Type} [DecidableEq κ] [ρ:KeyT P κ] {w0:World} {L:Hp} {g:Env}
def MapAt (P:Program) {κ:Type} [DecidableEq κ] [ρ:KeyT P κ] (b:Nat) (l:List (κ × Value)) (h:Hp):Prop :=
 ∃ (es:Array MapEntry) (clock:Nat),h=pt b (.map es clock)∧(es.toList.map fun e=>(e.key,e.val))=l.map (fun p=>(ρ.enc p.1,p.2))
theorem MapAt.empty (b:Nat):MapAt P b ([]:List (κ × Value)) (pt b (.map #[] 0)):=⟨#[],0,rfl,rfl⟩
theorem ev_mapNew {t:TypeId}:EV P w0 L g (.makeMap t none) fun u L'=>∃ b,u=.map (some b)∧L'=pt b (.map #[] 0)+L:=by
 intro o a w n ho ha hst
 refine ⟨.map (some w.heap.size),w.alloc (.map #[] 0),_,.inl ?_,⟨_,rfl,rfl⟩,hst.alloc _⟩
 unfold execOp
 have hnew:(newObj (.map #[] 0)).run P w=.ok w.heap.size (w.alloc (.map #[] 0)):=rfl
 simp [ho,Instr.makeMap,hnew]
theorem MapAt.heap {b:Nat} {l:List (κ × Value)} {h R:Hp} (H:MapAt P b l h) {w:World} (hw:St w0 w (h+R)):∃ (es:Array MapEntry) (clock:Nat),w.heap[b]?=some (.map es clock)∧(es.toList.map fun e=>(e.key,e.val))=l.map (fun p=>(ρ.enc p.1,p.2)):=by
 obtain ⟨es,clock,rfl,he⟩:=H
 exact ⟨es,clock,hw.left.sat.pt.2,he⟩
theorem ev_mapGet {t e:TypeId} [hu:Und P t (.map ρ.kt e)] {sz by':Nat} {z:Value} [hi:Inf P e sz by' z] {x ix:Operand} {b:Nat} {l:List (κ × Value)} {k:κ} {h R:Hp} (hx:ev g x=some (.map (some b))) (hix:ev g ix=some (ρ.enc k)) (H:MapAt P b l h) [hf:yJ h L R] :
  EV P w0 L g (.lookup t x ix false) fun u L'=>u=(getA l k).getD z∧L'=L:=by
 intro o a w n ho ha hst
 have e:=hf.out
 obtain ⟨es,clock,hb,he⟩:=H.heap (R:=R) (w:=w) (w0:=w0) (by rw [← e]; exact hst)
 obtain ⟨i,i1,i2,i3,i4⟩:=hi.out
 refine ⟨_,w,L,.inl ?_,⟨rfl,rfl⟩,hst⟩
 unfold execOp
 simp only [ho,ha.ev hx,ha.ev hix]
 have hg:=MapKept.run_getObj_map (P:=P) hb
 have hfk:=ρ.find w k es.toList l he
 rw [← findP_get k l 0]
 cases hr:findP k l 0 with
 | none=>rw [hr] at hfk; simp [Instr.lookup,run_underlying hu.out,hg,ρ.check,hfk,zeroValue,typeInfo,i1,i4]
 | some p=>rw [hr] at hfk; simp [Instr.lookup,run_underlying hu.out,hg,ρ.check,hfk]
theorem ev_mapGetOk {t e:TypeId} [hu:Und P t (.map ρ.kt e)] {sz by':Nat} {z:Value} [hi:Inf P e sz by' z] {x ix:Operand} {b:Nat} {l:List (κ × Value)} {k:κ} {h R:Hp} (hx:ev g x=some (.map (some b))) (hix:ev g ix=some (ρ.enc k)) (H:MapAt P b l h) [hf:yJ h L R] :
  EV P w0 L g (.lookup t x ix true) fun u L'=>u=.tuple #[(getA l k).getD z,.bool (getA l k).isSome]∧L'=L:=by
 intro o a w n ho ha hst
 have e:=hf.out
 obtain ⟨es,clock,hb,he⟩:=H.heap (R:=R) (w:=w) (w0:=w0) (by rw [← e]; exact hst)
 obtain ⟨i,i1,i2,i3,i4⟩:=hi.out
 refine ⟨_,w,L,.inl ?_,⟨rfl,rfl⟩,hst⟩
 unfold execOp
 simp only [ho,ha.ev hx,ha.ev hix]
 have hg:=MapKept.run_getObj_map (P:=P) hb
 have hfk:=ρ.find w k es.toList l he
 rw [← findP_get k l 0]
 cases hr:findP k l 0 with
 | none=>rw [hr] at hfk; simp [Instr.lookup,run_underlying hu.out,hg,ρ.check,hfk,zeroValue,typeInfo,i1,i4]
 | some p=>rw [hr] at hfk; simp [Instr.lookup,run_underlying hu.out,hg,ρ.check,hfk]
theorem findP_some {x:κ}:∀ {l:List (κ × Value)} {i j:Nat} {v:Value},findP x l i=some (j,v)→∃ n,j=i+n∧l[n]?=some (x,v)
 | [],i,j,v,h=>by cases h
 | (y,u)::l,i,j,v,h=>by
  simp only [findP] at h
  split at h
  ·rename_i e; subst e; simp only [Option.some.injEq,Prod.mk.injEq] at h; exact ⟨0,by omega,by simp [h.2]⟩
  ·obtain ⟨n,h1,h2⟩:=findP_some h
   exact ⟨n+1,by omega,by simpa using h2⟩
theorem updA_none {x:κ} {v:Value}:∀ {l:List (κ × Value)} {i:Nat},findP x l i=none→updA l x v=l++[(x,v)]
 | [],_,_=>rfl
 | (y,u)::l,i,h=>by
  simp only [findP] at h
  split at h
  ·cases h
  ·rename_i e; simp only [updA,if_neg e,List.cons_append,updA_none h]
theorem updA_some {x:κ} {v u:Value}:∀ {l:List (κ × Value)} {i n:Nat},findP x l i=some (i+n,u)→updA l x v=l.set n (x,v)
 | [],_,_,h=>by cases h
 | (y,u0)::l,i,n,h=>by
  simp only [findP] at h
  split at h
  ·rename_i e; subst e
   simp only [Option.some.injEq,Prod.mk.injEq] at h
   obtain rfl:n=0:=by omega
   simp [updA]
  ·rename_i e
   obtain ⟨m,h1,h2⟩:=findP_some h
   obtain rfl:n=m+1:=by omega
   have:=updA_some (v:=v) (l:=l) (i:=i+1) (n:=m) (by rw [h]; exact congrArg (fun q=>some (q,u)) (by omega))
   simp only [updA,if_neg e,List.set_cons_succ,this]
theorem ev_mapSet {t e:TypeId} [hu:Und P t (.map ρ.kt e)] {x ix y:Operand} {b:Nat} {l:List (κ × Value)} {k:κ} {v:Value} {h R:Hp} (hx:ev g x=some (.map (some b))) (hix:ev g ix=some (ρ.enc k)) (hy:ev g y=some v) (H:MapAt P b l h) [hf:yJ h L R] :
  EV P w0 L g (.mapUpdate t x ix y) fun u L'=>∃ h',MapAt P b (updA l k v) h'∧L'=h'+R:=by
 intro o a w n ho ha hst
 have e:=hf.out
 subst e
 obtain ⟨es,clock,rfl,he⟩:=H
 have hb:=hst.left.sat.pt.2
 have hg:=MapKept.run_getObj_map (P:=P) hb
 have hfk:=ρ.find w k es.toList l he
 cases hr:findP k l 0 with
 | none =>
  rw [hr] at hfk
  have hs:=hst.set (o':=.map (es.push { key:=ρ.enc k,val:=v,born:=clock }) (clock+1)) (w':={ w with heap:=w.heap.setIfInBounds b (.map (es.push { key:=ρ.enc k,val:=v,born:=clock }) (clock+1)) }) (MapKept.heap_set hb).1 (MapKept.heap_set hb).2 (by simp) M M M
  refine ⟨undef,_,_,.inr ⟨?_,rfl⟩,⟨_,⟨es.push { key:=ρ.enc k,val:=v,born:=clock },clock+1,rfl,?_⟩,rfl⟩,hs⟩
  ·unfold execOp
   simp only [ho,ha.ev hx,ha.ev hix,ha.ev hy]
   simp [Instr.mapUpdate,run_underlying hu.out,hg,ρ.check,hfk,MapKept.run_setObj_map _ hb]
  ·rw [updA_none hr]; simp [he]
 | some p =>
  rw [hr] at hfk
  obtain ⟨j,u⟩:=p
  obtain ⟨m,h1,h2⟩:=findP_some hr
  obtain rfl:j=m:=by omega
  have hel:(es.toList.map fun e=>(e.key,e.val))[j]?=some (ρ.enc k,u):=by rw [he,List.getElem?_map,h2]; rfl
  obtain ⟨en,hen,hen2⟩:∃ en,es.toList[j]?=some en∧(en.key,en.val)=(ρ.enc k,u):=by
   rw [List.getElem?_map] at hel
   cases h3:es.toList[j]? with
   | none=>rw [h3] at hel; cases hel
   | some en=>rw [h3] at hel; exact ⟨en,rfl,by simpa using hel⟩
  have hen':es[j]?=some en:=by simpa using hen
  simp only [Prod.mk.injEq] at hen2
  have hst2:=ρ.stays w k
  have hs:=hst.set (o':=.map (es.modify j fun e=>{ e with key:=ρ.enc k,val:=v }) clock) (w':={ w with heap:=w.heap.setIfInBounds b (.map (es.modify j fun e=>{ e with key:=ρ.enc k,val:=v }) clock) }) (MapKept.heap_set hb).1 (MapKept.heap_set hb).2 (by simp) M M M
  refine ⟨undef,_,_,.inr ⟨?_,rfl⟩,⟨_,⟨es.modify j fun e=>{ e with key:=ρ.enc k,val:=v },clock,rfl,?_⟩,rfl⟩,hs⟩
  ·unfold execOp
   simp only [ho,ha.ev hx,ha.ev hix,ha.ev hy]
   simp [Instr.mapUpdate,run_underlying hu.out,hg,ρ.check,hfk,hen',hen2.1,hst2,MapKept.run_setObj_map _ hb]
  ·rw [updA_some (i:=0) (n:=j) (u:=u) (by rw [hr]; simp)]
   apply List.ext_getElem?
   intro q
   have hq:(es.toList.map fun e=>(e.key,e.val))[q]?=(l.map fun p=>(ρ.enc p.1,p.2))[q]?:=by rw [he]
   simp only [List.getElem?_map,Array.getElem?_toList,Array.getElem?_modify,List.getElem?_set] at hq ⊢
   by_cases hjq:j=q
   ·subst hjq
    rw [if_pos M,if_pos M,hen']
    have:j<l.length:=(List.getElem?_eq_some_iff.1 h2).1
    rw [if_pos this]; rfl
   ·rw [if_neg hjq,if_neg hjq,hq]
theorem pv_len_map {t kt' e:TypeId} [hu:Und P t (.map kt' e)] {x:Operand} {b:Nat} {l:List (κ × Value)} {h R:Hp} (hx:ev g x=some (.map (some b))) (H:MapAt P b l h) [hf:yJ h L R] :
  EV P w0 L g (.call { callee:=.builtin .len,args:=#[x],argTypes:=#[t] }) fun u L'=>u=.int .i64 l.length∧L'=L:=by
 intro o a w n ho ha hst
 have e:=hf.out
 obtain ⟨es,clock,hb,he⟩:=H.heap (R:=R) (w:=w) (w0:=w0) (by rw [← e]; exact hst)
 refine ⟨_,w,L,.inl ?_,⟨rfl,rfl⟩,hst⟩
 have hlen:es.size=l.length:=by have:=congrArg List.length he; simpa using this
 have hg:=MapKept.run_getObj_map (P:=P) hb
 unfold execOp
 simp [ho,resolve,invoke,builtin,ha.ev hx,Builtin.lenOf,Builtin.len_,run_underlying hu.out,hg,goInt,hlen]
end
section
variable {P:Program}
@[instance_reducible] def keyInt {t:TypeId} (hu:P.underlying t=some (.int .i64)):KeyT P Int where
 kt:=t
 enc:=fun n=>.int .i64 n
 check:=fun e w x=>MapKept.run_checkKey hu (show MapKept.IsKey (.int .i64) (.int .i64 x) by simp only [MapKept.IsKey]) e 9999
 find:=fun w x es l he=>MapKept.run_findKey hu (by
  revert l
  suffices ∀ (i:Nat) (l:List (Int × Value)),(es.map fun e=>(e.key,e.val))=l.map (fun p=>(Value.int .i64 p.1,p.2))→Instr.findNow (.int .i64) (.int .i64 x) es i=some (findP x l i) from fun l=>this 0 l
  induction es with
  | nil=>intro i l h; cases l with
   | nil=>rfl
   | cons=>cases h
  | cons e es ih=>intro i l h; cases l with
   | nil=>cases h
   | cons p l =>
    simp only [List.map_cons,List.cons.injEq,Prod.mk.injEq] at h
    obtain ⟨⟨h1,h2⟩,h3⟩:=h
    have hs:Instr.sameNow (.int .i64) (.int .i64 x) e.key=some (x==p.1):=by rw [h1]; rfl
    simp only [Instr.findNow,hs,findP]
    by_cases hx:x=p.1
    ·rw [if_pos hx,beq_iff_eq.2 hx,h2]
    ·rw [if_neg hx,beq_eq_false_iff_ne.2 hx]; exact ih (i+1) l h3)
 stays:=fun w x=>MapKept.run_keyThatStays (d:=.int .i64) (k:=.int .i64 x) (by simp only [MapKept.IsKey])
end
section
variable {P:Program}
theorem sameNow_struct {fs:Array Field} (a b:Value):Instr.sameNow (.struct fs) a b=none:=by cases a<;>cases b<;>rfl
theorem findNow_struct {fs:Array Field} (x:Value):∀ {es:List MapEntry} {i:Nat},es≠[]→Instr.findNow (.struct fs) x es i=none
 | [],_,h=>absurd M h
 | e::es,i,_=>by simp only [Instr.findNow,sameNow_struct]
abbrev enc3 (x:Int × Int × Int):Value:=.agg [.int .i64 x.1,.int .i64 x.2.1,.int .i64 x.2.2].toArray
theorem check3 {t:TypeId} {f0 f1 f2:Field} (hu:P.underlying t=some (.struct [f0,f1,f2].toArray)) (h0:P.underlying f0.type=some (.int .i64)) (h1:P.underlying f1.type=some (.int .i64)) (h2:P.underlying f2.type=some (.int .i64))
  (o0:f0.offset=0) (o1:f1.offset=1) (o2:f2.offset=2) (e:Bool) (w:World) (x:Int × Int × Int):(Instr.checkKey e 10000 t (enc3 x)).run P w=.ok () w:=by
 have hc:∀ (f:Field) (v:Int),P.underlying f.type=some (.int .i64)→(Instr.checkKey e 9999 f.type (.int .i64 v)).run P w=.ok () w:=fun f v h=>MapKept.run_checkKey h (show MapKept.IsKey (.int .i64) (.int .i64 v) by simp only [MapKept.IsKey]) e 9998
 have c0:=hc f0 x.1 h0
 have c1:=hc f1 x.2.1 h1
 have c2:=hc f2 x.2.2 h2
 unfold Instr.checkKey
 simp only [Sem.run_bind,run_underlying hu,Result.andThen]
 simp [part,isAgg,run_underlying h0,run_underlying h1,run_underlying h2,o0,o1,o2,c0,c1,c2]
theorem stays3 (w:World) (x:Int × Int × Int):(Instr.keyThatStays (enc3 x) (enc3 x)).run P w=.ok (enc3 x) w:=by
 simp [Instr.keyThatStays,Instr.sameBits,enc3]
theorem asking3 {t:TypeId} {f0 f1 f2:Field} (hu:P.underlying t=some (.struct [f0,f1,f2].toArray)) (h0:P.underlying f0.type=some (.int .i64)) (h1:P.underlying f1.type=some (.int .i64)) (h2:P.underlying f2.type=some (.int .i64))
  (o0:f0.offset=0) (o1:f1.offset=1) (o2:f2.offset=2) (n0:(f0.name == "_")=false) (n1:(f1.name == "_")=false) (n2:(f2.name == "_")=false) (hp:P.stoodInHeld t=false) (w:World) (x:Int × Int × Int) :
  ∀ (es:List MapEntry) (i:Nat) (l:List ((Int × Int × Int) × Value)),(es.map fun e=>(e.key,e.val))=l.map (fun p=>(enc3 p.1,p.2))→(Instr.findAsking t (enc3 x) es i).run P w=.ok (findP x l i) w:=by
 intro es
 induction es with
 | nil=>intro i l h; cases l with
  | nil=>rfl
  | cons=>cases h
 | cons e es ih=>intro i l h; cases l with
  | nil=>cases h
  | cons p l =>
   simp only [List.map_cons,List.cons.injEq,Prod.mk.injEq] at h
   obtain ⟨⟨k1,k2⟩,k3⟩:=h
   have hf:P.fieldsOf t=[f0,f1,f2].toArray:=by simp [Program.fieldsOf,hu]
   have hu':P.underlying t=some (.struct (P.fieldsOf t)):=by rw [hf]; exact hu
   have heq:=run_equalIn_agg (P:=P) w 9999 t [.int .i64 x.1,.int .i64 x.2.1,.int .i64 x.2.2].toArray [.int .i64 p.1.1,.int .i64 p.1.2.1,.int .i64 p.1.2.2].toArray hu' hp
   have hfe:fieldsEq P [Value.int .i64 x.1,.int .i64 x.2.1,.int .i64 x.2.2].toArray [Value.int .i64 p.1.1,.int .i64 p.1.2.1,.int .i64 p.1.2.2].toArray [f0,f1,f2]=some (decide (x.1=p.1.1)&&(decide (x.2.1=p.1.2.1)&&(decide (x.2.2=p.1.2.2)&&true))):=by
    simp [fieldsEq,n0,n1,n2,cellEq,h0,h1,h2,o0,o1,o2]
   rw [hf,run_fieldsEq 9998 w hfe] at heq
   have hd:(decide (x.1=p.1.1)&&(decide (x.2.1=p.1.2.1)&&(decide (x.2.2=p.1.2.2)&&true)))=decide (x=p.1):=by
    obtain ⟨a,b,c⟩:=x; obtain ⟨⟨a',b',c'⟩,v⟩:=p
    simp only [Bool.and_true,Prod.mk.injEq,Bool.decide_and]
   rw [hd] at heq
   have hee:(Op.equal t (enc3 x) e.key).run P w=.ok (decide (x=p.1)) w:=by rw [k1]; exact heq
   unfold Instr.findAsking
   simp only [Sem.run_bind,hee,Result.andThen_ok,findP]
   by_cases hx:x=p.1
   ·simp [hx,k2]
   ·simp only [hx,decide_false,Bool.false_eq_true,if_false]; exact ih (i+1) l k3
@[instance_reducible] def key3 {t:TypeId} {f0 f1 f2:Field} (hu:P.underlying t=some (.struct [f0,f1,f2].toArray)) (h0:P.underlying f0.type=some (.int .i64)) (h1:P.underlying f1.type=some (.int .i64)) (h2:P.underlying f2.type=some (.int .i64))
  (o0:f0.offset=0) (o1:f1.offset=1) (o2:f2.offset=2) (n0:(f0.name == "_")=false) (n1:(f1.name == "_")=false) (n2:(f2.name == "_")=false) (hp:P.stoodInHeld t=false):KeyT P (Int × Int × Int) where
 kt:=t
 enc:=enc3
 check:=check3 hu h0 h1 h2 o0 o1 o2
 find:=fun w x es l he=>by
  unfold Instr.findKey
  simp only [Sem.run_bind,run_underlying hu,Result.andThen_ok]
  cases es with
  | nil=>cases l with
   | nil=>rfl
   | cons=>cases he
  | cons e es =>
   rw [findNow_struct _ (by simp)]
   exact asking3 hu h0 h1 h2 o0 o1 o2 n0 n1 n2 hp w x (e::es) 0 l he
 stays:=stays3
end
end Sl
end Go.Proofs.YtfahijncpmlhjaaGreat
namespace Go.Proofs
open Go.Shelf
def Tryz.lays189_ren :Go.Shelf.Ren:=⟨fun|189=>210|125=>283|257=>282|128=>341|129=>342|294=>332|295=>333|296=>334|297=>335|298=>336|299=>337|216=>338|300=>339|301=>340|328=>358|329=>359|330=>360|331=>361|332=>362|215=>224|343=>367|n=>n,fun|28=>61|3=>3|46=>148|0=>0|51=>235|53=>153|4=>4|183=>324|182=>323|131=>222|5=>5|9=>9|218=>338|222=>157|228=>346|229=>347|n=>n,fun|n=>n⟩
theorem Tryz.lays189 :Go.Proofs.Lays.n189 Tryz.prog Tryz.lays189_ren:={
 mixed:=by kernel_rfl
 f125:=Tryz.func283.trans (congrArg some (by kernel_rfl))
 f128:=Tryz.func341.trans (congrArg some (by kernel_rfl))
 f129:=Tryz.func342.trans (congrArg some (by kernel_rfl))
 f189:=Tryz.func210.trans (congrArg some (by kernel_rfl))
 f215:=Tryz.func224.trans (congrArg some (by kernel_rfl))
 f216:=Tryz.func338.trans (congrArg some (by kernel_rfl))
 f257:=Tryz.func282.trans (congrArg some (by kernel_rfl))
 f294:=Tryz.func332.trans (congrArg some (by kernel_rfl))
 f295:=Tryz.func333.trans (congrArg some (by kernel_rfl))
 f296:=Tryz.func334.trans (congrArg some (by kernel_rfl))
 f297:=Tryz.func335.trans (congrArg some (by kernel_rfl))
 f298:=Tryz.func336.trans (congrArg some (by kernel_rfl))
 f299:=Tryz.func337.trans (congrArg some (by kernel_rfl))
 f300:=Tryz.func339.trans (congrArg some (by kernel_rfl))
 f301:=Tryz.func340.trans (congrArg some (by kernel_rfl))
 f328:=Tryz.func358.trans (congrArg some (by kernel_rfl))
 f329:=Tryz.func359.trans (congrArg some (by kernel_rfl))
 f330:=Tryz.func360.trans (congrArg some (by kernel_rfl))
 f331:=Tryz.func361.trans (congrArg some (by kernel_rfl))
 f332:=Tryz.func362.trans (congrArg some (by kernel_rfl))
 f343:=Tryz.func367.trans (congrArg some (by kernel_rfl))
 t0:=Tryz.underlying0
 a0:=Tryz.isAgg0
 z0:=Tryz.sizeOf0
 v0:=Tryz.zeroValue0
 t3:=Tryz.underlying3
 a3:=Tryz.isAgg3
 z3:=Tryz.sizeOf3
 v3:=Tryz.zeroValue3
 t4:=Tryz.underlying4
 a4:=Tryz.isAgg4
 z4:=Tryz.sizeOf4
 v4:=Tryz.zeroValue4
 t5:=Tryz.underlying5
 a5:=Tryz.isAgg5
 z5:=Tryz.sizeOf5
 v5:=Tryz.zeroValue5
 t9:=Tryz.underlying9
 a9:=Tryz.isAgg9
 z9:=Tryz.sizeOf9
 v9:=Tryz.zeroValue9
 t28:=Tryz.underlying61
 a28:=Tryz.isAgg61
 z28:=Tryz.sizeOf61
 v28:=Tryz.zeroValue61
 t46:=Tryz.underlying148
 a46:=Tryz.isAgg148
 z46:=Tryz.sizeOf148
 v46:=Tryz.zeroValue148
 t51:=Tryz.underlying235
 a51:=Tryz.isAgg235
 z51:=Tryz.sizeOf235
 v51:=Tryz.zeroValue235
 t53:=Tryz.underlying153
 a53:=Tryz.isAgg153
 z53:=Tryz.sizeOf153
 v53:=Tryz.zeroValue153
 t131:=Tryz.underlying222
 a131:=Tryz.isAgg222
 z131:=Tryz.sizeOf222
 v131:=Tryz.zeroValue222
 t182:=Tryz.underlying323
 a182:=Tryz.isAgg323
 z182:=Tryz.sizeOf323
 v182:=Tryz.zeroValue323
 t183:=Tryz.underlying324
 a183:=Tryz.isAgg324
 z183:=Tryz.sizeOf324
 v183:=Tryz.zeroValue324
 t218:=Tryz.underlying338
 a218:=Tryz.isAgg338
 z218:=Tryz.sizeOf338
 v218:=Tryz.zeroValue338
 t222:=Tryz.underlying157
 a222:=Tryz.isAgg157
 z222:=Tryz.sizeOf157
 v222:=Tryz.zeroValue157
 t228:=Tryz.underlying346
 a228:=Tryz.isAgg346
 z228:=Tryz.sizeOf346
 v228:=Tryz.zeroValue346
 t229:=Tryz.underlying347
 a229:=Tryz.isAgg347
 z229:=Tryz.sizeOf347
 v229:=Tryz.zeroValue347 }
open Go.Sort Go.RowKit in
theorem Tryz.slices_Sort_int (blk off cap:Nat) (zs:List Int) (w:World) (hH:Holds (Value.int .i64) w blk off zs.toArray) (hblk:blk<w.heap.size) (hsz:zs.length<4611686018427387904) :
  Calls Tryz.prog 210 #[.slice (some ⟨blk,off,none⟩) zs.length cap] w fun e w' =>
   e=.returned (.tuple #[])∧∃ n os,w'=grow (putRow (Value.int .i64) (Sort.ahead w n) blk off (zs.mergeSort fun x y=>decide (x≤y)).toArray) os:=Any.slices_Sort_int Tryz.lays189 blk off cap zs w hH hblk hsz
def Tryz.laysNm220_ren :Go.Shelf.Ren:=⟨fun|20=>211|n=>n,fun|22=>61|3=>3|4=>4|0=>0|n=>n,fun|n=>n⟩
theorem Tryz.laysNm220 :Go.Proofs.Lays2.n20 Tryz.prog Tryz.laysNm220_ren:={
 mixed:=by kernel_rfl
 f20:=Tryz.func211.trans (congrArg some (by kernel_rfl))
 t0:=Tryz.underlying0
 a0:=Tryz.isAgg0
 z0:=Tryz.sizeOf0
 v0:=Tryz.zeroValue0
 t3:=Tryz.underlying3
 a3:=Tryz.isAgg3
 z3:=Tryz.sizeOf3
 v3:=Tryz.zeroValue3
 t4:=Tryz.underlying4
 a4:=Tryz.isAgg4
 z4:=Tryz.sizeOf4
 v4:=Tryz.zeroValue4
 t22:=Tryz.underlying61
 a22:=Tryz.isAgg61
 z22:=Tryz.sizeOf61
 v22:=Tryz.zeroValue61
 i3:=by kernel_rfl }
open Go.RowKit Go.Lib Go.Sort in
theorem Tryz.slices_Compact_int_arr (blk off cap:Nat) (d:Array Int) (w:World) (hH:Holds encI w blk off d) (hsz:d.size≤9223372036854775807) (hcap:d.size≤cap) :
  Calls Tryz.prog 211 #[.slice (some ⟨blk,off,none⟩) d.size cap] w fun e w'=>e=.returned (.slice (some ⟨blk,off,none⟩) (compactUpTo d d.size).length cap)∧∃ q,w'=putRow encI (Sort.ahead w q) blk off (compactUpTo d d.size++List.replicate (d.size - (compactUpTo d d.size).length) 0).toArray:=Any.slices_Compact_int_arr Tryz.laysNm220 blk off cap d w hH hsz hcap
open Go.RowKit Go.Lib Go.Sort in
theorem Tryz.slices_Compact_int (blk off cap:Nat) (zs:List Int) (w:World) (hH:Holds (Value.int .i64) w blk off zs.toArray) (hsz:zs.length≤9223372036854775807) (hcap:zs.length≤cap) :
  Calls Tryz.prog 211 #[.slice (some ⟨blk,off,none⟩) zs.length cap] w fun e w'=>e=.returned (.slice (some ⟨blk,off,none⟩) (Lib.compact zs).length cap)∧∃ q,w'=putRow (Value.int .i64) (Sort.ahead w q) blk off (Lib.compact zs++List.replicate (zs.length - (Lib.compact zs).length) 0).toArray:=Any.slices_Compact_int Tryz.laysNm220 blk off cap zs w hH hsz hcap
open Go.RowKit Go.Lib Go.Sort in
theorem Tryz.slices_Compact_int_empty (a:Option Addr) (cap:Nat) (w:World) :
  Calls Tryz.prog 211 #[.slice a 0 cap] w fun e w'=>e=.returned (.slice a 0 cap)∧w'=w:=Any.slices_Compact_int_empty Tryz.laysNm220 a cap w
open Go.RowKit Go.Sort in
theorem Tryz.slices_Sort_int_none (p:Option Addr) (cap:Nat) (w:World) :
  Calls Tryz.prog 210 #[.slice p 0 cap] w fun e w'=>e=.returned (.tuple #[])∧w'=w:=Any.slices_Sort_int_none Tryz.lays189 p cap w
end Go.Proofs
namespace Go.Proofs.YtfahijncpmlhjaaGreat
open Go Go.RowKit
namespace Sl
theorem St.grow {w0 w:World} {L:Hp} (h:St w0 w L) (os:Array Obj):St w0 (Sort.grow w os) L :=
 ⟨h.below.trans ⟨rfl,rfl,rfl,by simp [Sort.grow],fun k hk=>by
  have:k<w.heap.size:=Nat.lt_of_lt_of_le hk h.below.size
  simp only [Sort.grow]
  rw [Array.getElem?_append_left this]⟩,h.sat.mono fun k _ hk=>by simp only [Sort.grow]; rw [Array.getElem?_append_left hk]⟩
theorem flat1 (l:List Int):(enc1 l).flatten=l.map (Value.int .i64):=by
 induction l with
 | nil=>rfl
 | cons x l ih=>simp only [enc1,List.map_cons,List.flatten_cons] at ih ⊢; rw [ih]; rfl
theorem putCells_row (d:List Int) (old spare:List Value) (h:old.length=d.length) :
  Sort.putCells (Value.int .i64) 0 d.toArray (old++spare).toArray=(d.map (Value.int .i64)++spare).toArray:=by
 apply Array.ext'
 apply List.ext_getElem?
 intro k
 simp only [Sort.putCells,Array.toList_mapIdx,List.getElem?_mapIdx,List.size_toArray,Nat.zero_le,Nat.zero_add,true_and,Nat.sub_zero]
 by_cases hk:k<d.length
 ·rw [List.getElem?_append_left (by omega),List.getElem?_append_left (by simpa using hk),List.getElem?_eq_getElem (by omega)]
  simp [hk]
 ·rw [List.getElem?_append_right (by omega),List.getElem?_append_right (by simpa using hk),List.length_map,h]
  cases spare[k - d.length]?<;>simp [hk]
theorem St.row {w0 w:World} {b:Nat} {old spare:List Value} {e:TypeId} {R:Hp} (h:St w0 w (pt b (.cells (old++spare).toArray e (0,0))+R)) (n:Nat) (d:List Int) (hd:old.length=d.length) :
  St w0 (Sort.putRow (Value.int .i64) (Sort.ahead w n) b 0 d.toArray) (pt b (.cells (d.map (Value.int .i64)++spare).toArray e (0,0))+R):=by
 have hh:=h.sat.left.pt.2
 refine h.set (o':=.cells (d.map (Value.int .i64)++spare).toArray e (0,0)) ?_ (fun k hk=>?_) ?_ rfl M M
 ·show ((Sort.ahead w n).heap.modify b _)[b]?=_
  rw [Array.getElem?_modify,if_pos M,show (Sort.ahead w n).heap=w.heap from rfl,hh]
  simp only [Option.map_some,Sort.onCells]
  rw [putCells_row d old spare hd]
 ·show ((Sort.ahead w n).heap.modify b _)[k]?=_
  rw [Array.getElem?_modify,if_neg (Ne.symm hk)]; rfl
 ·show w.heap.size≤((Sort.ahead w n).heap.modify b _).size
  rw [Array.size_modify]; exact Nat.le_refl _
theorem holds_row {w0 w:World} {b:Nat} {zs:List Int} {spare:List Value} {e:TypeId} {R:Hp} (h:St w0 w (pt b (.cells ((enc1 zs).flatten++spare).toArray e (0,0))+R)):Sort.Holds (Value.int .i64) w b 0 zs.toArray:=by
 have hh:=h.sat.left.pt.2
 intro j hj
 have hj':j<zs.length:=by simpa using hj
 refine ⟨?_,by simp [World.frozen?,hh]⟩
 rw [flat1] at hh
 simp only [World.cell?,hh,Nat.zero_add]
 rw [List.getElem?_toArray,List.getElem?_append_left (by simpa using hj')]
 simp [hj']
def sortI (zs:List Int):List Int:=zs.mergeSort fun x y=>decide (x≤y)
theorem sortI_length (zs:List Int):(sortI zs).length=zs.length:=by simp [sortI]
theorem sort_spec (w0:World) (v:Value) (zs:List Int) (h:Hp) (hr:isRow 3 1 (enc1 zs) v h) (hl:zs.length≤1000000000) :
  Spec Tryz.prog w0 210 [v] h (fun r h'=>isRow 3 1 (enc1 (sortI zs)) v h'):=by
 intro w fr hst
 by_cases hz:zs=[]
 ·subst hz
  obtain ⟨a,c,rfl⟩:=hr.shape
  refine (Tryz.slices_Sort_int_none a c w).mono ?_
  rintro e w' ⟨rfl,rfl⟩
  exact ⟨_,h,rfl,by show isRow _ _ (enc1 (sortI [])) _ _; rw [show sortI []=[] by simp [sortI]]; exact hr,hst⟩
 ·obtain ⟨b,cap,spare,rfl,rfl,hes,hcap,hmax,hsp⟩:=hr.nonempty (by intro e; rw [← List.length_eq_zero_iff,enc1_length] at e; exact hz (List.eq_nil_of_length_eq_zero e))
  rw [enc1_length] at *
  have hh:=hst.sat.left.pt.2
  refine (Tryz.slices_Sort_int b 0 cap zs w (holds_row hst) (Array.getElem?_eq_some_iff.1 hh).1 (by omega)).mono ?_
  rintro e w' ⟨rfl,n,os,rfl⟩
  have hst2:=(hst.row n (sortI zs) (by rw [flat1,List.length_map,sortI_length])).grow os
  rw [← flat1] at hst2
  refine ⟨_,_,rfl,?_,hst2⟩
  have:=isRow_block (E:=3) (b:=b) (cap:=cap) (spare:=spare) (enc1_len1 (sortI zs)) (by rw [enc1_length,sortI_length]; exact hcap) hmax (by rw [enc1_length,sortI_length]; exact hsp)
  rwa [enc1_length,sortI_length] at this
def compI (zs:List Int):List Int:=Lib.compact zs
theorem compI_le (zs:List Int):(compI zs).length≤zs.length:=by
 unfold compI Lib.compact Lib.compactUpTo
 rw [List.length_map]
 exact Nat.le_trans (List.length_filter_le _ _) (by simp)
theorem compact_spec (w0:World) (v:Value) (zs:List Int) (h:Hp) (hr:isRow 3 1 (enc1 zs) v h) (hl:zs.length≤1000000000) :
  Spec Tryz.prog w0 211 [v] h (fun r h'=>isRow 3 1 (enc1 (compI zs)) r h'):=by
 intro w fr hst
 by_cases hz:zs=[]
 ·subst hz
  obtain ⟨a,c,rfl⟩:=hr.shape
  refine (Tryz.slices_Compact_int_empty a c w).mono ?_
  rintro e w' ⟨rfl,rfl⟩
  exact ⟨_,h,rfl,hr,hst⟩
 ·obtain ⟨b,cap,spare,rfl,rfl,hes,hcap,hmax,hsp⟩:=hr.nonempty (by intro e; rw [← List.length_eq_zero_iff,enc1_length] at e; exact hz (List.eq_nil_of_length_eq_zero e))
  rw [enc1_length] at *
  refine (Tryz.slices_Compact_int b 0 cap zs w (holds_row hst) (by omega) hcap).mono ?_
  rintro e w' ⟨rfl,q,rfl⟩
  have hle:=compI_le zs
  have hst2:=hst.row q (compI zs++List.replicate (zs.length - (compI zs).length) 0) (by rw [flat1,List.length_map,List.length_append,List.length_replicate]; omega)
  rw [List.map_append,← flat1,List.append_assoc] at hst2
  refine ⟨_,_,rfl,?_,hst2⟩
  have:=isRow_block (E:=3) (b:=b) (cap:=cap) (spare:=(List.replicate (zs.length - (compI zs).length) (0:Int)).map (Value.int .i64)++spare) (enc1_len1 (compI zs)) (by rw [enc1_length]; omega) hmax
   (by rw [enc1_length,List.length_append,List.length_map,List.length_replicate,hsp]; omega)
  rwa [enc1_length] at this
deriving instance DecidableEq for Rng
structure Prm where
 src:Int
 index:Int
 value:Int
deriving DecidableEq
structure Coo where
 me:Int
 txn:Int
 parts:List Int
 acc:Int
 accepted:List ((Int × Int × Int) × List (Int × Int))
 chosen:List (Int × Int)
 started:Bool
 number:Int
 promised:List (Int × List Prm)
 proposed:List (Int × Int)
 top:Int
abbrev msg0 (kind part value:Int):Msg:=⟨kind,0,0,0,0,0,0,0,0,0,part,0,value,0,false,[],[]⟩
def mapI (l:List (Int × Int)) (k:Int):Int:=(getA l k).getD 0
def startC (k:Coo) (n:Int):Coo:={ k with started:=true,number:=n,promised:=[],proposed:=[] }
def startL (k:Coo) (n:Int):List Msg:=(k.parts.filter (fun p=>mapI k.chosen p=0)).flatMap fun p=>allF k.me k.txn n (msg0 8 p 0) k.acc.toNat
def accC (k:Coo) (m:Msg):Coo :=
 if m.value≠1∧m.value≠2 then k else
 let i:=updA ((getA k.accepted (m.part,m.ballot,m.value)).getD []) m.src 1
 let k1:={ k with accepted:=updA k.accepted (m.part,m.ballot,m.value) i }
 if k.acc<2*(i.length:Int) then { k1 with chosen:=updA k.chosen m.part (max (mapI k.chosen m.part) m.value) } else k1
def bestV :List Prm→Int × Int→Int × Int
 | [],p=>p
 | x::l,p=>bestV l (if (x.value=1∨x.value=2)∧(p.1=0∨p.2<x.index) then (x.value,x.index) else p)
def propV (l:List Prm):Int:=if (bestV l (0,0)).1=0 then 2 else (bestV l (0,0)).1
def promC (k:Coo) (m:Msg):Coo × List Msg :=
 if k.started=false∨m.ballot≠k.number∨0<mapI k.proposed m.part then (k,[]) else
 let l:=(getA k.promised m.part).getD []
 if l.any (fun p=>p.src=m.src) then (k,[]) else
 let l2:=l++[⟨m.src,m.index,m.value⟩]
 let k1:={ k with promised:=updA k.promised m.part l2 }
 if 2*(l2.length:Int)≤k.acc then (k1,[]) else
 ({ k1 with proposed:=updA k.proposed m.part 1 },allF k.me k.txn k.number (msg0 10 m.part (propV l2)) k.acc.toNat)
def stepC (k:Coo) (m:Msg):Coo × List Msg :=
 if m.txn≠k.txn∨m.src<1∨k.acc<m.src∨m.part∉k.parts then (k,[]) else
 if m.kind≠11∧m.kind≠9 then (k,[]) else
 if m.ok=false then ({ k with top:=max k.top m.index },[]) else
 if m.kind=11 then (accC k m,[]) else promC k m
def valL (ch:List (Int × Int)):List Int→Int→Int
 | [],v=>v
 | p::l,v=>if mapI ch p=2 then 2 else valL ch l (if mapI ch p=0 then 0 else v)
def valueC (k:Coo):Int:=valL k.chosen k.parts 1
def newC (me txn:Int) (parts:List Int) (acc:Int):Coo:=⟨me,txn,parts,acc,[],[],false,0,[],[],0⟩
def risesF :List Int→Int→Bool
 | [],_=>true
 | p::l,last=>decide (last<p∧p≤4)&&risesF l p
def newOk (me txn:Int) (parts:List Int) (acc:Int):Bool :=
 decide (1≤me∧me≤199∧1≤txn∧txn≤1099511627776∧parts≠[]∧1≤acc∧acc≤7∧acc % 2≠0)&&risesF parts 0
def newO (me txn:Int) (parts:List Int) (acc:Int):Option Coo:=if newOk me txn parts acc=true then some (newC me txn parts acc) else none
structure Spn where
 lo:Int
 hi:Int
structure Dbt where
 id:Int
 parts:List Int
 groups:List Int
structure Txn where
 id:Int
 age:Int
 reads:List Bof
 asked:List Int
 writes:List Wr
 parts:List Int
 slo:Int
 shi:Int
structure Mpp where
 rngs:List Rng
 epoch:Int
 m1:Int
 m2:Int
 m3:Int
 m4:Int
 m5:Int
structure Cal where
 kind:Int
 block:Int
 set:Int
 snap:Int
 txn:Int
 src:Int
 dst:Int
 lo:Int
 hi:Int
 group:Int
 node:Int
 value:Int
inductive Hrd where
 | quiet
 | look
 | read (block:Int)
 | part (o:Opn) (group:Int)
 | kept (x:Cal)
 | plan (x:Cal)
 | frz (x:Cal) (epoch:Int)
 | inst (x:Cal) (epoch:Int)
 | fin (x:Cal) (epoch:Int)
 | change (x:Cal)
inductive Wts where
 | read (x:Cal)
 | prep
 | snap
 | kept (x:Cal)
 | again (x:Cal)
structure Rq where
 group:Nat
 o:Opn
 frm:Int
 sent:Int
 tidy:Bool
 heard:Hrd
structure Pkt where
 src:Int
 dst:Int
 bytes:List Bt
structure Cl where
 nodes:Int
 accs:Int
 clis:Int
 nmem:Nat
 sets:List Spn
 id:Int
 addr:Int
 clock:Int
 seq:Int
 txns:Int
 m:Mpp
 stale:Bool
 guess:List Int
 ended:List (Int × Int)
 doubts:List Dbt
 round:Int
 reqs:List Rq
 cur:Txn
 opn:Bool
 own:Bool
 busy:Bool
 kind:Int
 since:Int
 waits:Option Wts
 coord:Option Coo
 about:Int
 started:Int
 out:List Pkt
 ans:Ans
 answered:Bool
abbrev op0 (kind:Int):Opn:=⟨kind,0,0,0,0,0,0,0,0,0,0,0,0,[],[],[],[]⟩
def pkB (m:Msg):List Bt:=headF (putM m)++putM m
def putF (c:Cl) (m:Msg):Cl :=
 let m:={ m with src:=c.addr }
 if checkM m=0∧(putM m).length≤65536 then { c with out:=c.out++[⟨c.addr,m.dst,pkB m⟩] } else c
def putsF (c:Cl) (l:List Msg):Cl:=l.foldl putF c
def guessAt (c:Cl) (g:Nat):Int:=c.guess.getD g 0
def askM (c:Cl) (r:Rq):Msg:=⟨6,0,guessAt c r.group,r.group,0,0,0,0,0,0,0,0,0,r.o.seq,false,[],putO r.o⟩
def sentF (c:Cl) (i:Nat):Cl:={ c with reqs:=c.reqs.modify i fun r=>{ r with sent:=c.clock } }
def sendF (c:Cl) (i:Nat):Cl:=match c.reqs[i]? with
 | none=>c
 | some r=>if checkF r.o=0 then putF (sentF c i) (askM c r) else sentF c i
def firstF (l:List Rq):List Nat:=(List.range l.length).filter fun i=>match l[i]? with
 | none=>false
 | some r=>(l.take i).all fun q=>q.group≠r.group
def dueF (c:Cl) (i:Nat):Bool:=match c.reqs[i]? with
 | none=>false
 | some r=>decide (r.sent<0∧r.frm≤c.clock)
def sendsF (c:Cl) (l:List Nat):Cl:=l.foldl (fun c i=>if dueF c i=true then sendF c i else c) c
def flushF (c:Cl):Cl:=sendsF c (firstF c.reqs)
def ans0 :Ans:=⟨0,0,[]⟩
def doneF (c:Cl):Cl:={ flushF c with out:=[],ans:=ans0,answered:=false }
abbrev reqF (c:Cl) (g:Nat) (o:Opn) (later:Int) (tidy:Bool) (h:Hrd):Rq:=⟨g,{ o with client:=c.id,seq:=c.seq+1 },c.clock+later,-1,tidy,h⟩
def askF (c:Cl) (g:Nat) (o:Opn) (later:Int) (tidy:Bool) (h:Hrd):Cl:={ c with seq:=c.seq+1,reqs:=c.reqs++[reqF c g o later tidy h] }
def quietF (c:Cl) (g:Nat) (o:Opn):Cl:=askF c g o 0 true .quiet
def sayF (c:Cl) (a:Ans):Cl:={ c with busy:=false,own:=false,waits:=none,ans:=a,answered:=true }
def codeF (c:Cl) (e:Int):Cl:=sayF c ⟨e,0,[]⟩
def dropF (c:Cl):Cl:={ c with reqs:=c.reqs.filter (·.tidy) }
theorem mem_compI {x:Int} {l:List Int} (h:x∈compI l):x∈l:=by
 unfold compI Lib.compact Lib.compactUpTo at h
 obtain ⟨i,hi,rfl⟩:=List.mem_map.1 h
 have hi:=(List.mem_filter.1 hi).1
 rw [List.mem_range] at hi
 simp [hi]
def groupsF (t:Txn):List Int:=compI (sortI (t.parts++t.asked))
theorem mem_groupsF {x:Int} {t:Txn} (h:x∈groupsF t):x∈t.parts++t.asked:=List.mem_mergeSort.1 (mem_compI h)
def endOp (id value:Int):Opn:=⟨3,0,0,id,0,0,0,0,0,0,value,0,0,[],[],[],[]⟩
def quietsF (c:Cl) (o:Opn) (l:List Int):Cl:=l.foldl (fun c g=>quietF c g.toNat o) c
def tidyF (c:Cl) (id:Int) (groups:List Int) (value:Int):Cl:=quietsF { c with ended:=updA c.ended id value } (endOp id value) groups
def lookF (c:Cl) (later:Int):Cl:=askF c 0 (op0 8) later true .look
def turnF (c:Cl):Cl:=if c.stale=true then c else lookF { c with stale:=true } 0
def noT :Txn:=⟨0,0,[],[],[],[],0,0⟩
def openedF (c:Cl):Cl:={ c with txns:=c.txns+1,cur:={ noT with id:=c.id*1048576+(c.txns+1),age:=c.clock*8+c.id } }
def lostF (c:Cl) (e:Int):Cl :=
 let c1:=if e=26 then turnF c else c
 codeF { tidyF c1 c1.cur.id (groupsF c1.cur) 2 with opn:=false } 24
def readOp (c:Cl) (r:Rng) (block:Int):Opn:=⟨1,0,0,c.cur.id,c.cur.age,r.epoch,0,0,block,0,0,0,0,[],[],[],[]⟩
def readF (c:Cl) (block later:Int):Cl :=
 let r:=(findR c.m.rngs block).1
 askF { c with cur:={ c.cur with asked:=c.cur.asked++[r.group] } } r.group.toNat (readOp c r block) later false (.read block)
def mineF (r:Rng) (b:Int):Bool:=decide (r.lo≤b∧b<r.hi)
def preparedF (t:Txn) (r:Rng):Opn :=
 ⟨2,0,0,t.id,t.age,r.epoch,if t.slo<t.shi then t.slo else 0,if t.slo<t.shi then t.shi else 0,0,if t.slo<t.shi then t.id else 0,0,0,0,t.parts,
  sortI ((t.reads.filter fun x=>mineF r x.block).map (·.block)),t.writes.filter fun w=>mineF r w.block,[]⟩
def ofF (t:Txn) (r:Rng):Bool:=t.reads.any (fun x=>mineF r x.block)||(t.writes.any (fun w=>mineF r w.block)||decide (max r.lo t.slo<min r.hi t.shi))
def byGroup (l:List Rng):List Rng:=l.mergeSort (fun a b=>decide (a.group≤b.group))
def partF (c:Cl) (o:Opn) (g:Int) (later:Int):Cl:=askF c g.toNat o later false (.part o g)
def prepL (c:Cl):List Rng:=byGroup (c.m.rngs.filter (ofF c.cur))
def prepC (c:Cl) (l:List Rng):Cl:={ c with own:=true,cur:={ c.cur with parts:=l.map (·.group) },coord:=newO c.addr c.cur.id (l.map (·.group)) c.accs,about:=c.cur.id }
def partsF (t:Txn) (l:List Rng) (c:Cl):Cl:=l.foldl (fun c r=>partF c (preparedF t r) r.group 0) c
def prepareF (c:Cl):Cl:=partsF (prepC c (prepL c)).cur (prepL c) (prepC c (prepL c))
def cameF (v:Int):Int:=if v=1 then 0 else 24
def closeF (c:Cl) (e:Int):Cl:=if c.kind=7 then sayF c ⟨e,c.cur.id,[]⟩ else sayF { c with opn:=false } ⟨e,0,[]⟩
def ballotF (n addr:Int):Int:=IntKind.i64.wrap (IntKind.i64.wrap (n*1048576)+addr)
def startF (c:Cl):Cl:=match c.coord with
 | none=>c
 | some k =>
  let n:=max c.round (k.top / 1048576)+1
  putsF { c with started:=c.clock,round:=n,coord:=some (startC k (ballotF n c.addr)) } (startL k (ballotF n c.addr))
def resolveF (c:Cl) (d:Dbt):Cl:=startF { c with coord:=newO c.addr d.id d.parts c.accs,about:=d.id }
def noD :Dbt:=⟨0,[],[]⟩
def doubtF (c:Cl):Dbt:=(c.doubts.find? (fun d=>decide (d.id=c.about))).getD noD
def clearF (c:Cl):Cl:={ dropF c with coord:=none }
def solvedF (c:Cl) (d:Dbt) (v:Int):Cl:=tidyF { c with doubts:=c.doubts.filter fun x=>decide (x.id≠d.id) } d.id d.groups v
def nextF (c:Cl) (v:Int):Cl:=if c.kind=9 then codeF c (cameF v) else match c.doubts with
 | []=>codeF c 0
 | d::_=>resolveF c d
def comeF (c:Cl) (v:Int):Cl :=
 if c.own=true then closeF (tidyF (clearF c) c.cur.id (groupsF c.cur) v) (cameF v) else nextF (solvedF (clearF c) (doubtF c) v) v
def keptOp (x:Cal) (r:Rng):Opn:=⟨4,0,0,0,0,r.epoch,0,0,x.block,x.snap,0,0,0,[],[],[],[]⟩
def keptF (c:Cl) (x:Cal) (later:Int):Cl :=
 let r:=(findR c.m.rngs x.block).1
 askF c r.group.toNat (keptOp x r) later false (.kept x)
def runW (c:Cl):Wts→Cl
 | .read x=>readF c x.block 0
 | .prep=>prepareF c
 | .snap=>prepareF c
 | .kept x=>keptF c x 0
 | .again x=>keptF c x 0
def mappedF (c:Cl) (w:Wts):Cl:=if c.stale=true then { c with waits:=some w } else runW c w
def frzF (c:Cl) (x:Cal) (epoch later:Int):Cl:=askF c x.src.toNat ⟨5,0,0,0,0,epoch,x.lo,x.hi,0,0,0,0,0,[],[],[],[]⟩ later false (.frz x epoch)
def instF (c:Cl) (x:Cal) (epoch:Int) (d:List Bt):Cl:=askF c x.dst.toNat ⟨6,0,0,0,0,epoch,x.lo,x.hi,0,0,0,0,0,[],[],[],d⟩ 0 false (.inst x epoch)
def finF (c:Cl) (x:Cal) (epoch:Int):Cl:=askF c 0 ⟨10,0,0,0,0,epoch,0,0,0,0,0,0,0,[],[],[],[]⟩ 0 false (.fin x epoch)
def changeF (c:Cl) (x:Cal) (later:Int):Cl:=askF c x.group.toNat ⟨11,0,0,0,0,0,0,0,0,0,x.value,0,x.node,[],[],[],[]⟩ later false (.change x)
def rngG (s:RS):Rng × RS:=(⟨intV s,intV (intS s),intV (intS (intS s)),intV (intS (intS (intS s)))⟩,intS (intS (intS (intS s))))
def rngsN (s:RS):Bool:=decide (0≤intV s∧intV s≤((intS s).left.length:Int) / 8)
def chainF :List Rng→Int→List Int→Int→Option Int
 | [],at',had,least=>some at'
 | r::l,at',had,least =>
  if r.lo≠at'∨r.hi≤r.lo∨64<r.hi∨r.group<1∨4<r.group∨r.group∈had∨r.epoch<1∨least<r.epoch then none
  else chainF l r.hi (r.group::had) least
def moved (m:Mpp):Bool:=decide (¬ (m.m1=0∧m.m2=0∧m.m3=0∧m.m4=0∧m.m5=0))
def leastF (m:Mpp):Int:=if moved m=true then IntKind.i64.wrap (m.epoch - 1) else m.epoch
def checkR (m:Mpp):Int:=match chainF m.rngs 0 [] (leastF m) with
 | none=>4
 | some e=>if e≠64∨1099511627776<m.epoch then 4 else if moved m=false then 0 else
  if plannedF m.rngs (leastF m) 0 m.m2 m.m3 m.m4 m.m5≠0∨leastF m+1≠m.m1 then 4 else 0
def readMap (s:RS):Mpp × RS :=
 let p:=many rngG (intV s).toNat (intS s)
 let s:=p.2
 (⟨p.1,intV s,intV (intS s),intV (intS (intS s)),intV (intS (intS (intS s))),intV (intS (intS (intS (intS s)))),intV (intS (intS (intS (intS (intS s)))))⟩,intS (intS (intS (intS (intS (intS s))))))
def noMap :Mpp:=⟨[],0,0,0,0,0,0⟩
def getMapF (b:List Bt):Mpp × Int :=
 if rngsN ⟨b,false⟩=false then (noMap,4) else
 let p:=readMap ⟨b,false⟩
 if endV p.2≠0 then (noMap,endV p.2) else if checkR p.1≠0 then (noMap,checkR p.1) else (p.1,0)
def learnF (c:Cl) (b:List Bt):Cl:=if (getMapF b).2=0∧c.m.epoch≤(getMapF b).1.epoch then { c with m:=(getMapF b).1 } else c
def goF (c:Cl):Cl:=match c.waits with
 | none=>c
 | some w=>runW { c with waits:=none } w
def heardF (c:Cl) (h:Hrd) (x:Res):Cl:=match h with
 | .quiet=>c
 | .look=>if x.code≠0 then lookF c 1 else if (getMapF x.data).2≠0 then lookF (learnF c x.data) 1 else goF { learnF c x.data with stale:=false }
 | .read b=>if x.code=0 then sayF { c with cur:={ c.cur with reads:=c.cur.reads++[⟨b,x.data⟩] } } ⟨0,0,x.data⟩ else if x.code=11 then readF c b 1 else lostF c x.code
 | .part o g=>if x.code=0 then c else if x.code=11 then partF c o g 1 else comeF (if x.code=26 then turnF c else c) 2
 | .kept y=>if x.code=11 then keptF c y 1 else if x.code=26 then mappedF (turnF c) (.again y) else sayF c ⟨x.code,0,x.data⟩
 | .plan y=>if x.code≠0 then codeF c x.code else frzF c y (getMapF x.data).1.m1 0
 | .frz y e=>if x.code=0 then instF c y e x.data else if x.code=11 then frzF c y e 1 else codeF c x.code
 | .inst y e=>if x.code≠0 then codeF c x.code else finF c y e
 | .fin y e=>if x.code≠0 then codeF c x.code else codeF (quietF (learnF c x.data) y.src.toNat ⟨7,0,0,0,0,e,0,0,0,0,0,0,0,[],[],[],[]⟩) 0
 | .change y=>if x.code=11 then changeF c y 1 else codeF c x.code
structure Rsp where
 out:List Pkt
 ans:Ans
 answered:Bool
def endF (c:Cl):Rsp:=⟨(flushF c).out,(flushF c).ans,(flushF c).answered⟩
def planOp (x:Cal):Opn:=⟨9,0,0,0,0,0,x.lo,x.hi,0,0,0,x.src,x.dst,[],[],[],[]⟩
def beginF (c:Cl):Cl:=if c.opn=true then codeF c 12 else if 1048575≤c.txns then codeF c 17 else sayF { openedF c with opn:=true } ⟨0,(openedF c).cur.id,[]⟩
def isBof (n:Int) (r:Bof):Bool:=decide (r.block=n)
def readingF (c:Cl) (x:Cal):Cl :=
 if c.opn=false then codeF c 22 else if ¬ (0≤x.block∧x.block<64) then codeF c 20 else match c.cur.writes.find? (isW x.block) with
 | some w=>sayF c ⟨0,0,w.data⟩
 | none=>match c.cur.reads.find? (isBof x.block) with
  | some r=>sayF c ⟨0,0,r.data⟩
  | none=>if 16≤c.cur.reads.length then codeF c 17 else mappedF c (.read x)
def writingF (c:Cl) (x:Cal) (d:List Bt):Cl :=
 if c.opn=false then codeF c 22 else codeF { c with cur:={ c.cur with writes:=(writeF c.cur.writes x.block d).1 } } (writeF c.cur.writes x.block d).2
def commitF (c:Cl):Cl:=if c.opn=false then codeF c 22 else if c.cur.reads.length+c.cur.writes.length=0 then codeF { c with opn:=false } 0 else mappedF c .prep
def abortF (c:Cl):Cl:=if c.opn=false then codeF c 22 else codeF { tidyF c c.cur.id (groupsF c.cur) 2 with opn:=false } 0
def barrierF (c:Cl):Cl:=if c.opn=true then codeF c 12 else match c.doubts with
 | []=>codeF c 0
 | d::_=>resolveF c d
def snapshotF (c:Cl) (x:Cal):Cl :=
 if c.opn=true then codeF c 12 else if x.set<1∨(c.sets.length:Int)<x.set then codeF c 3 else if 1048575≤c.txns then codeF c 17 else
 let s:=c.sets.getD (x.set - 1).toNat ⟨0,0⟩
 let c:=openedF c
 mappedF { c with cur:={ c.cur with slo:=s.lo,shi:=s.hi },own:=true } .snap
def readSnapF (c:Cl) (x:Cal):Cl :=
 if ¬ (0≤x.block∧x.block<64) then codeF c 20 else if checkF (keptOp x ⟨0,0,0,0⟩)≠0 then codeF c (checkF (keptOp x ⟨0,0,0,0⟩)) else mappedF c (.kept x)
def statusF (c:Cl) (x:Cal):Cl:=match getA c.ended x.txn with
 | some v=>codeF c (cameF v)
 | none=>match c.doubts.find? (fun d=>decide (d.id=x.txn)) with
  | none=>codeF c 22
  | some d=>resolveF c d
def moveF (c:Cl) (x:Cal):Cl :=
 if c.opn=true then codeF c 12 else if checkF (planOp x)≠0 then codeF c (checkF (planOp x)) else if (c.nmem:Int)≤max x.src x.dst then codeF c 27 else askF c 0 (planOp x) 0 false (.plan x)
def memberF (c:Cl) (x:Cal):Cl :=
 if x.group<0∨(c.nmem:Int)≤x.group then codeF c 27 else if x.node<1∨c.nodes<x.node then codeF c 28 else if x.value≠1∧x.value≠2 then codeF c 3 else changeF c x 0
def doesF (c:Cl) (x:Cal) (d:List Bt):Cl :=
 if x.kind=1 then beginF c else if x.kind=2 then readingF c x else if x.kind=3 then writingF c x d else if x.kind=4 then commitF c else if x.kind=5 then abortF c else
 if x.kind=6 then barrierF c else if x.kind=7 then snapshotF c x else if x.kind=8 then readSnapF c x else if x.kind=9 then statusF c x else if x.kind=10 then moveF c x else memberF c x
def callF (c:Cl) (x:Cal) (d:List Bt):Cl × Rsp :=
 if c.busy=true then (c,⟨[],⟨11,0,[]⟩,true⟩) else if x.kind<1∨11<x.kind then (c,⟨[],⟨13,0,[]⟩,true⟩) else
 let c:=doesF { c with busy:=true,kind:=x.kind,since:=c.clock } x d
 (doneF c,endF c)
def guessF (c:Cl) (g:Nat) (n:Int):Cl:={ c with guess:=c.guess.set g n }
def againF (c:Cl) (i:Nat):Cl:=match c.reqs[i]? with
 | none=>c
 | some r=>if 0≤r.sent∧4≤c.clock - r.sent then sendF (guessF c r.group (guessAt c r.group % c.nodes+1)) i else c
def dbtF (c:Cl):Dbt:=⟨c.cur.id,c.cur.parts,groupsF c.cur⟩
def overF (c:Cl):Cl :=
 if c.kind=4∨c.kind=7 then
  (if c.coord.isSome=true then closeF { clearF c with doubts:=c.doubts++[dbtF c],own:=true } 25 else closeF { tidyF (clearF c) c.cur.id (groupsF c.cur) 2 with own:=true } 24)
 else if c.kind=2 then lostF (clearF c) 0 else if c.kind=8 then codeF (clearF c) 11 else codeF (clearF c) 25
def tickF (c:Cl):Cl × Rsp :=
 let c:Cl:={ c with clock:=c.clock+1 }
 let c:=(firstF c.reqs).foldl againF c
 let c:=if c.coord.isSome=true∧c.own=false∧20≤c.clock - c.started then startF c else c
 let c:=if c.busy=true∧60≤c.clock - c.since then overF c else c
 (doneF c,endF c)
def isTold (m:Msg) (r:Rq):Bool:=decide ((r.group:Int)=m.group∧r.o.seq=m.seq∧0≤r.sent)
def toldAt (c:Cl) (m:Msg):Option Nat:=(firstF c.reqs).find? fun i=>match c.reqs[i]? with
 | none=>false
 | some r=>isTold m r
def toldF (c:Cl) (m:Msg):Cl:=match toldAt c m with
 | none=>c
 | some i=>match c.reqs[i]? with
  | none=>c
  | some r =>
   if m.ok=false then (if 1≤m.index∧m.index≤c.nodes∧m.index≠m.src then sendF (guessF c r.group m.index) i else c)
   else if (getRes m.data).2≠0 then c else
   let c:=if m.src≤c.nodes then guessF c r.group m.src else c
   heardF { c with reqs:=c.reqs.eraseIdx i } r.heard (getRes m.data).1
def stepF (c:Cl) (m:Msg):Cl:=match c.coord with
 | none=>c
 | some k =>
  let c:=putsF { c with coord:=some (stepC k m).1 } (stepC k m).2
  if valueC (stepC k m).1≠0 then comeF c (valueC (stepC k m).1) else c
def takeF (c:Cl) (src dst:Int) (b:List Bt):Cl × Rsp :=
 let m:=(getM b).1
 if dst≠c.addr∨(getM b).2≠0∨m.src≠src∨m.dst≠dst then (c,⟨[],ans0,false⟩) else
 let c:=if m.kind=7 then toldF c m else if c.coord.isSome=true∧m.txn=c.about∧(m.kind=9∨m.kind=11) then stepF c m else c
 (doneF c,endF c)
set_option maxHeartbeats 16000000
set_option maxRecDepth 4000
attribute [local irreducible] Hold HoldL HoldW
instance keyI :KeyT Tryz.prog Int:=keyInt (t:=3) (Und.out (P:=Tryz.prog) (t:=3) (d:=.int .i64))
instance keyB :KeyT Tryz.prog (Int × Int × Int):=key3 (t:=249) (Und.out (P:=Tryz.prog) (t:=249)) (Und.out (P:=Tryz.prog) (t:=3)) (Und.out (P:=Tryz.prog) (t:=3)) (Und.out (P:=Tryz.prog) (t:=3)) M M M M M M (by kernel_rfl)
instance repPrm :Rep Prm where
 tid:=253
 size:=3
 rd:=fun _ _ x e=>e=[.int .i64 x.src,.int .i64 x.index,.int .i64 x.value]
 len:=by rintro _ _ _ _ rfl; rfl
 one:=by rintro _ _ _ _ rfl u hu; simp at hu; rcases hu with rfl|rfl|rfl<;>rfl
 mono:=fun _ h=>h
def vI (l:List (Int × Int)):List (Int × Value):=l.map fun p=>(p.1,.int .i64 p.2)
theorem getA_vI (l:List (Int × Int)) (k:Int):getA (vI l) k=(getA l k).map (.int .i64):=by
 induction l with
 | nil=>rfl
 | cons p l ih =>
  obtain ⟨a,b⟩:=p
  simp only [vI,List.map_cons,getA] at ih ⊢
  split
  ·rfl
  ·exact ih
theorem updA_vI (l:List (Int × Int)) (k v:Int):updA (vI l) k (.int .i64 v)=vI (updA l k v):=by
 induction l with
 | nil=>rfl
 | cons p l ih =>
  obtain ⟨a,b⟩:=p
  simp only [vI,List.map_cons,updA] at ih ⊢
  split
  ·rfl
  ·rw [ih]; rfl
theorem mapI_vI (l:List (Int × Int)) (k:Int):(getA (vI l) k).getD (.int .i64 0)=.int .i64 (mapI l k):=by
 rw [getA_vI]; unfold mapI; cases getA l k<;>rfl
def Assoc {κ α:Type} (R:α→Value→Hp→Prop):List (κ × α)→List (κ × Value)→Hp→Prop
 | [],[],h=>h=0
 | (k,x)::l,(k',v)::vs,h=>k=k'∧∃ h1 h2,R x v h1∧Assoc R l vs h2∧h=h1+h2
 | _,_,_=>False
section
variable {κ α:Type} [DecidableEq κ] {R:α→Value→Hp→Prop}
theorem Assoc.none :∀ {l:List (κ × α)} {vs:List (κ × Value)} {h:Hp} {k:κ},Assoc R l vs h→getA l k=none→getA vs k=none
 | [],[],_,_,_,_=>rfl
 | (a,x)::l,(b,v)::vs,_,k,h,hg=>by
  obtain ⟨rfl,_,_,_,h2,_⟩:=h
  simp only [getA] at hg ⊢
  split at hg
  ·cases hg
  ·rename_i hn; rw [if_neg hn]; exact Assoc.none h2 hg
 | [],_::_,_,_,h,_=>h.elim
 | _::_,[],_,_,h,_=>h.elim
theorem Assoc.some :∀ {l:List (κ × α)} {vs:List (κ × Value)} {h:Hp} {k:κ} {x:α},Assoc R l vs h→getA l k=some x →
  ∃ v h1 h2,getA vs k=some v∧R x v h1∧h=h1+h2∧∀ {y:α} {u:Value} {h3:Hp},R y u h3→Assoc R (updA l k y) (updA vs k u) (h3+h2)
 | [],_,_,_,_,_,hg=>by cases hg
 | (a,z)::l,(b,w)::vs,h,k,x,hh,hg=>by
  obtain ⟨rfl,h1,h2,hr,hl,rfl⟩:=hh
  simp only [getA] at hg ⊢
  split at hg
  ·rename_i e; subst e
   simp only [Option.some.injEq] at hg; subst hg
   rw [if_pos M]
   refine ⟨w,h1,h2,rfl,hr,rfl,fun {y u h3} hy=>?_⟩
   simp only [updA,if_pos M]
   exact ⟨rfl,h3,h2,hy,hl,rfl⟩
  ·rename_i hn
   rw [if_neg hn]
   obtain ⟨v,g1,g2,e1,e2,e3,e4⟩:=Assoc.some hl hg
   refine ⟨v,g1,h1+g2,e1,e2,by rw [e3]; ac_rfl,fun {y u h3} hy=>?_⟩
   simp only [updA,if_neg hn]
   exact ⟨rfl,h1,h3+g2,hr,e4 hy,by ac_rfl⟩
 | _::_,[],_,_,_,h,_=>h.elim
theorem Assoc.new :∀ {l:List (κ × α)} {vs:List (κ × Value)} {h:Hp} {k:κ} {y:α} {u:Value} {h3:Hp},Assoc R l vs h→getA l k=.none→R y u h3→Assoc R (updA l k y) (updA vs k u) (h3+h)
 | [],[],_,k,y,u,h3,h,_,hy=>by obtain rfl:=(show _=_ from h); exact ⟨rfl,h3,0,hy,rfl,rfl⟩
 | (a,z)::l,(b,w)::vs,h,k,y,u,h3,hh,hg,hy=>by
  obtain ⟨rfl,h1,h2,hr,hl,rfl⟩:=hh
  simp only [getA] at hg
  split at hg
  ·cases hg
  ·rename_i hn
   simp only [updA,if_neg hn]
   exact ⟨rfl,h1,h3+h2,hr,Assoc.new hl hg hy,by ac_rfl⟩
 | [],_::_,_,_,_,_,_,h,_,_=>h.elim
 | _::_,[],_,_,_,_,_,h,_,_=>h.elim
theorem updA_same :∀ {vs:List (κ × Value)} {k:κ} {v:Value},getA vs k=.some v→updA vs k v=vs
 | [],_,_,h=>by cases h
 | (a,w)::vs,k,v,h=>by
  simp only [getA] at h
  simp only [updA]
  split at h
  ·rename_i e; subst e; simp only [Option.some.injEq] at h; subst h; rw [if_pos M]
  ·rename_i hn; rw [if_neg hn,updA_same h]
end
def InnerAt (x:List (Int × Int)) (v:Value) (h:Hp):Prop:=∃ b,v=.map (some b)∧MapAt Tryz.prog b (vI x) h
def AccAt (b:Nat) (l:List ((Int × Int × Int) × List (Int × Int))) (h:Hp):Prop:=∃ vs h1 h2,MapAt Tryz.prog b vs h1∧Assoc InnerAt l vs h2∧h=h1+h2
def PrsAt (w0:World) (b:Nat) (l:List (Int × List Prm)) (h:Hp):Prop:=∃ vs h1 h2,MapAt Tryz.prog b vs h1∧Assoc (fun x v h=>OwL w0 0 x v h) l vs h2∧h=h1+h2
def FromStart (st:Bool) (v:Value) (h:Hp) (p:Nat→Hp→Prop):Prop:=if st=true then ∃ b,v=.map (some b)∧p b h else v=.map none∧h=0
structure CooAt (w0:World) (b:Nat) (k:Coo) (S:Hp):Prop where
 out:∃ (vp pm pp:Value) (ab cb:Nat) (h1 h2 h3 h4 h5:Hp),OwL w0 0 k.parts vp h1∧AccAt ab k.accepted h2∧MapAt Tryz.prog cb (vI k.chosen) h3 ∧
  FromStart k.started pm h4 (fun q h=>PrsAt w0 q k.promised h)∧FromStart k.started pp h5 (fun q h=>MapAt Tryz.prog q (vI k.proposed) h) ∧
  S=cooC b k.me k.txn vp k.acc (.map (some ab)) (.map (some cb)) (.bool k.started) k.number pm pp k.top+(h1+(h2+(h3+(h4+h5))))
end Sl
end Go.Proofs.YtfahijncpmlhjaaGreat
namespace Go.Proofs.YtfahijncpmlhjaaGreat
open Go Go.RowKit
namespace Sl
structure Core where
 group:Nat
 o:Opn
 frm:Int
 tidy:Bool
 heard:Hrd
def core (r:Rq):Core:=⟨r.group,r.o,r.frm,r.tidy,r.heard⟩
def Same (c c':Cl):Prop:=∃ out reqs,c'={ c with out:=out,reqs:=reqs }∧reqs.map core=c.reqs.map core
theorem Same.refl (c:Cl):Same c c:=⟨c.out,c.reqs,rfl,rfl⟩
theorem Same.trans {a b c:Cl} (h:Same a b) (k:Same b c):Same a c:=by
 obtain ⟨o1,r1,rfl,e1⟩:=h
 obtain ⟨o2,r2,rfl,e2⟩:=k
 exact ⟨o2,r2,rfl,e2.trans e1⟩
theorem putF_same (c:Cl) (m:Msg):Same c (putF c m)∧(putF c m).reqs=c.reqs:=by
 unfold putF
 simp only
 split
 ·exact ⟨⟨_,_,rfl,rfl⟩,rfl⟩
 ·exact ⟨Same.refl c,rfl⟩
theorem putsF_same :∀ (l:List Msg) (c:Cl),Same c (putsF c l)∧(putsF c l).reqs=c.reqs
 | [],c=>⟨Same.refl c,rfl⟩
 | m::l,c=>by
  have h1:=putF_same c m
  have h2:=putsF_same l (putF c m)
  exact ⟨h1.1.trans h2.1,h2.2.trans h1.2⟩
theorem map_modify_core (l:List Rq) (i:Nat) (n:Int):(l.modify i fun r=>{ r with sent:=n }).map core=l.map core:=by
 apply List.ext_getElem?
 intro j
 simp only [List.getElem?_map,List.getElem?_modify]
 cases l[j]? with
 | none=>rfl
 | some r=>by_cases h:i=j<;>simp [h,core]
theorem sentF_same (c:Cl) (i:Nat):Same c (sentF c i):=⟨_,_,rfl,map_modify_core _ _ _⟩
theorem sendF_same (c:Cl) (i:Nat):Same c (sendF c i):=by
 unfold sendF
 split
 ·exact Same.refl c
 ·split
  ·exact (sentF_same c i).trans (putF_same _ _).1
  ·exact sentF_same c i
theorem sendsF_same :∀ (l:List Nat) (c:Cl),Same c (sendsF c l)
 | [],c=>Same.refl c
 | i::l,c=>by
  have h2:=sendsF_same l (if dueF c i=true then sendF c i else c)
  refine Same.trans ?_ h2
  split
  ·exact sendF_same c i
  ·exact Same.refl c
theorem flushF_same (c:Cl):Same c (flushF c):=sendsF_same _ _
def pendH (c:Cl):List Hrd:=(c.reqs.filter fun r=>!r.tidy).map (·.heard)
theorem pendH_core (c:Cl):pendH c=((c.reqs.map core).filter fun r=>!r.tidy).map (·.heard):=by
 unfold pendH; rw [List.filter_map,List.map_map]; rfl
def tfree :Hrd→Bool
 | .quiet=>true
 | .look=>true
 | _=>false
def isPart :Hrd→Bool
 | .part _ _=>true
 | _=>false
def kindW (c:Cl):Wts→Prop
 | .read _=>c.kind=2∧c.opn=true∧c.own=false
 | .prep=>c.kind=4∧c.opn=true∧c.own=false
 | .snap=>c.kind=7∧c.opn=false∧c.own=true
 | .kept _=>c.kind=8∧c.own=false
 | .again _=>c.kind=8∧c.own=false
def kindH (c:Cl):Hrd→Prop
 | .read _=>c.kind=2∧c.opn=true
 | .kept _=>c.kind=8
 | .plan _=>c.kind=10
 | .frz _ _=>c.kind=10
 | .inst _ _=>c.kind=10
 | .fin _ _=>c.kind=10
 | .change _=>c.kind=11
 | _=>False
def PhI (c:Cl):Prop:=pendH c=[]∧c.waits=none∧c.coord=none∧c.own=false
def PhA (c:Cl):Prop:=pendH c=[]∧c.coord=none∧∃ w,c.waits=some w∧kindW c w
def PhB (c:Cl):Prop:=(∃ h,pendH c=[h]∧kindH c h)∧c.waits=none∧c.coord=none∧c.own=false
def PhC (c:Cl):Prop:=(∀ h∈pendH c,isPart h=true)∧c.own=true∧c.waits=none∧(c.kind=4∧c.opn=true∨c.kind=7∧c.opn=false)
def PhD (c:Cl):Prop:=pendH c=[]∧c.waits=none∧c.own=false∧c.coord.isSome=true∧(∃ d∈c.doubts,d.id=c.about)∧(c.kind=6∨c.kind=9)
def Quiet (c:Cl):Prop:=c.answered=false∧c.ans=ans0
def Work (c:Cl):Prop:=c.busy=true∧Quiet c∧(PhA c∨PhB c∨PhC c∨PhD c)
def Said (c:Cl):Prop:=c.busy=false∧c.answered=true∧PhI c
def Rest (c:Cl):Prop:=c.busy=false∧Quiet c∧PhI c
def Base (c:Cl):Prop:=c.busy=true∧Quiet c∧pendH c=[]∧c.waits=none∧c.coord=none
def grp (g:Int):Prop:=0≤g∧g≤4
def hrdOk :Hrd→Prop
 | .quiet=>True
 | .look=>True
 | .read _=>True
 | .part _ g=>grp g
 | .kept _=>True
 | .plan x=>grp x.src∧grp x.dst
 | .frz x _=>grp x.src∧grp x.dst
 | .inst x _=>grp x.src∧grp x.dst
 | .fin x _=>grp x.src
 | .change x=>grp x.group
structure Fine (c:Cl):Prop where
 guess:c.guess.length=5
 reqs:∀ r∈c.reqs.map core,r.group<5∧hrdOk r.heard∧(r.tidy=true→tfree r.heard=true)
 rngs:∀ r∈c.m.rngs,grp r.group
 parts:∀ g∈c.cur.parts,grp g
 asked:∀ g∈c.cur.asked,grp g
 doubts:∀ d∈c.doubts,(∀ g∈d.groups,grp g)∧newOk c.addr d.id d.parts c.accs=true
 coord:c.coord.isSome=true→c.own=true→newOk c.addr c.cur.id c.cur.parts c.accs=true
 nmem:c.nmem≤5∧0≤c.clock
theorem Fine.same {c c':Cl} (h:Fine c) (s:Same c c'):Fine c':=by
 obtain ⟨o,r,rfl,e⟩:=s
 exact ⟨h.guess,by simp only; rw [e]; exact h.reqs,h.rngs,h.parts,h.asked,h.doubts,h.coord,h.nmem⟩
theorem pendH_same {c c':Cl} (s:Same c c'):pendH c'=pendH c:=by
 obtain ⟨o,r,rfl,e⟩:=s
 rw [pendH_core,pendH_core]; simp only; rw [e]
theorem same_pres {c c':Cl} (s:Same c c'):(Work c→Work c')∧(Said c→Said c')∧(Rest c→Rest c'):=by
 have hp:=pendH_same s
 obtain ⟨o,r,rfl,e⟩:=s
 simp only [Work,Said,Rest,Quiet,PhA,PhB,PhC,PhD,PhI,hp,kindW,kindH]
 exact ⟨id,id,id⟩
def tidyRq (r:Rq):Prop:=r.tidy=true∧tfree r.heard=true∧r.group<5
def Adds (c c':Cl):Prop:=∃ seq ended stale l,c'={ c with seq:=seq,ended:=ended,stale:=stale,reqs:=c.reqs++l }∧∀ r∈l,tidyRq r
theorem Adds.refl (c:Cl):Adds c c:=⟨c.seq,c.ended,c.stale,[],by simp,by simp⟩
theorem Adds.trans {a b c:Cl} (h:Adds a b) (k:Adds b c):Adds a c:=by
 obtain ⟨s1,e1,t1,l1,rfl,h1⟩:=h
 obtain ⟨s2,e2,t2,l2,rfl,h2⟩:=k
 refine ⟨s2,e2,t2,l1++l2,by simp,fun r hr=>?_⟩
 rcases List.mem_append.1 hr with h|h
 ·exact h1 r h
 ·exact h2 r h
theorem quietF_adds (c:Cl) {g:Nat} (o:Opn) (hg:g<5):Adds c (quietF c g o):=by
 refine ⟨c.seq+1,c.ended,c.stale,[_],rfl,fun r hr=>?_⟩
 rw [List.mem_singleton] at hr; subst hr
 exact ⟨rfl,rfl,hg⟩
theorem grp_nat {g:Int} (h:grp g):g.toNat<5:=by unfold grp at h; omega
theorem quietsF_adds (o:Opn):∀ (l:List Int) (c:Cl),(∀ g∈l,grp g)→Adds c (quietsF c o l)
 | [],c,_=>Adds.refl c
 | g::l,c,h=>(quietF_adds c o (grp_nat (h g (by simp)))).trans (quietsF_adds o l (quietF c g.toNat o) fun x hx=>h x (by simp [hx]))
theorem tidyF_adds (c:Cl) (id:Int) (l:List Int) (v:Int) (h:∀ g∈l,grp g):Adds c (tidyF c id l v):=by
 have h2:=quietsF_adds (endOp id v) l { c with ended:=updA c.ended id v } h
 refine Adds.trans ⟨c.seq,updA c.ended id v,c.stale,[],by simp,by simp⟩ h2
theorem lookF_adds (c:Cl) (n:Int):Adds c (lookF c n):=by
 refine ⟨c.seq+1,c.ended,c.stale,[_],rfl,fun r hr=>?_⟩
 rw [List.mem_singleton] at hr; subst hr
 exact ⟨rfl,rfl,by simp [reqF]⟩
theorem turnF_adds (c:Cl):Adds c (turnF c):=by
 unfold turnF
 split
 ·exact Adds.refl c
 ·exact Adds.trans ⟨c.seq,c.ended,true,[],by simp,by simp⟩ (lookF_adds _ 0)
theorem tfree_ok {h:Hrd} (ht:tfree h=true):hrdOk h:=by cases h<;>first|trivial|cases ht
theorem pendH_adds {c c':Cl} (s:Adds c c'):pendH c'=pendH c:=by
 obtain ⟨_,_,_,l,rfl,h⟩:=s
 unfold pendH
 simp only [List.filter_append,List.map_append]
 have:l.filter (fun r=>!r.tidy)=[]:=List.filter_eq_nil_iff.2 fun r hr=>by simp [(h r hr).1]
 simp [this]
theorem Fine.adds {c c':Cl} (h:Fine c) (s:Adds c c'):Fine c':=by
 obtain ⟨_,_,_,l,rfl,hl⟩:=s
 refine ⟨h.guess,?_,h.rngs,h.parts,h.asked,h.doubts,h.coord,h.nmem⟩
 intro r hr
 simp only [List.map_append,List.mem_append] at hr
 rcases hr with hr|hr
 ·exact h.reqs r hr
 ·obtain ⟨q,hq,rfl⟩:=List.mem_map.1 hr
  obtain ⟨a,b,d⟩:=hl q hq
  exact ⟨d,tfree_ok b,fun _=>b⟩
theorem adds_keep {c c':Cl} (s:Adds c c'):c'.busy=c.busy∧c'.waits=c.waits∧c'.coord=c.coord∧c'.own=c.own∧c'.opn=c.opn∧c'.kind=c.kind∧c'.cur=c.cur∧c'.doubts=c.doubts∧c'.about=c.about∧c'.ans=c.ans∧c'.answered=c.answered∧c'.m=c.m∧c'.guess=c.guess∧c'.addr=c.addr∧c'.accs=c.accs∧c'.nmem=c.nmem∧c'.nodes=c.nodes∧c'.clock=c.clock:=by
 obtain ⟨_,_,_,l,rfl,hl⟩:=s
 simp
theorem Base.adds {c c':Cl} (h:Base c) (s:Adds c c'):Base c':=by
 have hp:=pendH_adds s
 obtain ⟨_,_,_,l,rfl,hl⟩:=s
 simp only [Base,Quiet,hp] at h ⊢
 exact h
theorem sayF_said {c:Cl} (a:Ans) (hp:pendH c=[]) (hc:c.coord=none):Said (sayF c a):=⟨rfl,rfl,hp,rfl,hc,rfl⟩
theorem Fine.say {c:Cl} (h:Fine c) (a:Ans):Fine (sayF c a):=⟨h.guess,h.reqs,h.rngs,h.parts,h.asked,h.doubts,(fun _ h=>by cases h),h.nmem⟩
theorem Fine.opn {c:Cl} (h:Fine c) (b:Bool):Fine { c with opn:=b }:=⟨h.guess,h.reqs,h.rngs,h.parts,h.asked,h.doubts,h.coord,h.nmem⟩
theorem Fine.groups {c:Cl} (h:Fine c):∀ g∈groupsF c.cur,grp g:=by
 intro g hg
 rcases List.mem_append.1 (mem_groupsF hg) with hg|hg
 ·exact h.parts g hg
 ·exact h.asked g hg
theorem lostF_said {c:Cl} (e:Int) (hf:Fine c) (hp:pendH c=[]) (hc:c.coord=none):Said (lostF c e)∧Fine (lostF c e):=by
 unfold lostF
 simp only
 have h1:Adds c (if e=26 then turnF c else c):=by split<;>first|exact turnF_adds c|exact Adds.refl c
 generalize (if e=26 then turnF c else c)=c1 at h1
 have hf1:=hf.adds h1
 have h2:=tidyF_adds c1 c1.cur.id (groupsF c1.cur) 2 hf1.groups
 have h3:=h1.trans h2
 generalize tidyF c1 c1.cur.id (groupsF c1.cur) 2=c2 at h2 h3
 have hk:=adds_keep h3
 exact ⟨sayF_said _ (by show pendH c2=[]; rw [pendH_adds h3,hp]) (by show c2.coord=none; rw [hk.2.2.1,hc]),((hf.adds h3).opn false).say _⟩
theorem pendH_ask (c:Cl) (g:Nat) (o:Opn) (n:Int) (h:Hrd):pendH (askF c g o n false h)=pendH c++[h]:=by
 unfold pendH askF reqF; simp
theorem Fine.ask {c:Cl} (h:Fine c) {g:Nat} (o:Opn) (n:Int) (t:Bool) {hd:Hrd} (hg:g<5) (hh:hrdOk hd) (ht:t=true→tfree hd=true):Fine (askF c g o n t hd):=by
 refine ⟨h.guess,?_,h.rngs,h.parts,h.asked,h.doubts,h.coord,h.nmem⟩
 intro r hr
 simp only [askF,List.map_append,List.mem_append] at hr
 rcases hr with hr|hr
 ·exact h.reqs r hr
 ·obtain ⟨q,hq,rfl⟩:=List.mem_map.1 hr
  rw [List.mem_singleton] at hq; subst hq
  exact ⟨hg,hh,ht⟩
theorem ask_work {c:Cl} (hb:Base c) (ho:c.own=false) (g:Nat) (o:Opn) (n:Int) {h:Hrd} (hk:kindH c h):Work (askF c g o n false h):=by
 obtain ⟨h1,h2,h3,h4,h5⟩:=hb
 refine ⟨h1,h2,.inr (.inl ⟨⟨h,by rw [pendH_ask,h3]; rfl,?_⟩,h4,h5,ho⟩)⟩
 cases h<;>exact hk
theorem findR_grp {c:Cl} (h:Fine c) (b:Int):grp (findR c.m.rngs b).1.group:=by
 unfold findR
 split
 ·rename_i r hr; exact h.rngs r (List.mem_of_find?_eq_some hr)
 ·exact ⟨Int.le_refl 0,by decide⟩
theorem Fine.reads {c:Cl} (h:Fine c) (l:List Bof):Fine { c with cur:={ c.cur with reads:=l } }:=⟨h.guess,h.reqs,h.rngs,h.parts,h.asked,h.doubts,h.coord,h.nmem⟩
theorem readF_work {c:Cl} (hf:Fine c) (hb:Base c) (ho:c.own=false) (hk:c.kind=2∧c.opn=true) (b n:Int):Work (readF c b n)∧Fine (readF c b n):=by
 unfold readF
 simp only
 have hg:=findR_grp hf b
 refine ⟨ask_work (h:=.read b) ⟨hb.1,hb.2.1,hb.2.2.1,hb.2.2.2.1,hb.2.2.2.2⟩ ho _ _ _ hk,Fine.ask ?_ _ _ _ (grp_nat hg) trivial (fun h=>by cases h)⟩
 refine ⟨hf.guess,hf.reqs,hf.rngs,hf.parts,?_,hf.doubts,hf.coord,hf.nmem⟩
 intro g hm
 rcases List.mem_append.1 hm with hm|hm
 ·exact hf.asked g hm
 ·rw [List.mem_singleton] at hm; subst hm; exact hg
theorem keptF_work {c:Cl} (hf:Fine c) (hb:Base c) (ho:c.own=false) (hk:c.kind=8) (x:Cal) (n:Int):Work (keptF c x n)∧Fine (keptF c x n) :=
 ⟨ask_work (h:=.kept x) hb ho _ _ _ hk,hf.ask _ _ _ (grp_nat (findR_grp hf _)) trivial (fun h=>by cases h)⟩
theorem parts_pend (t:Txn):∀ (l:List Rng) (c:Cl),(∀ h∈pendH c,isPart h=true)→∀ h∈pendH (partsF t l c),isPart h=true
 | [],c,h=>h
 | r::l,c,h=>by
  refine parts_pend t l (partF c (preparedF t r) r.group 0) ?_
  intro x hx
  unfold partF at hx
  rw [pendH_ask] at hx
  rcases List.mem_append.1 hx with hx|hx
  ·exact h x hx
  ·rw [List.mem_singleton] at hx; subst hx; rfl
def PartsOnly (c c':Cl):Prop:=∃ seq reqs,c'={ c with seq:=seq,reqs:=reqs }
theorem parts_only (t:Txn):∀ (l:List Rng) (c:Cl),PartsOnly c (partsF t l c)
 | [],c=>⟨c.seq,c.reqs,rfl⟩
 | r::l,c=>by
  obtain ⟨s,q,e⟩:=parts_only t l (partF c (preparedF t r) r.group 0)
  exact ⟨s,q,e⟩
theorem parts_fine (t:Txn):∀ (l:List Rng) (c:Cl),(∀ r∈l,grp r.group)→Fine c→Fine (partsF t l c)
 | [],c,_,h=>h
 | r::l,c,hl,h=>parts_fine t l (partF c (preparedF t r) r.group 0) (fun x hx=>hl x (by simp [hx])) (h.ask _ _ _ (grp_nat (hl r (by simp))) (hl r (by simp)) (fun h=>by cases h))
theorem mem_byGroup {l:List Rng} {r:Rng} (h:r∈byGroup l):r∈l:=by unfold byGroup at h; exact List.mem_mergeSort.1 h
theorem prepareF_work {c:Cl} (hf:Fine c) (hb:Base c) (hk:c.kind=4∧c.opn=true∨c.kind=7∧c.opn=false):Work (prepareF c)∧Fine (prepareF c):=by
 obtain ⟨h1,h2,h3,h4,h5⟩:=hb
 unfold prepareF
 have hl:∀ r∈prepL c,grp r.group:=fun r hr=>hf.rngs r (List.mem_filter.1 (mem_byGroup hr)).1
 generalize prepL c=l at hl
 have hpt:∀ g∈l.map (·.group),grp g:=fun g hg=>by obtain ⟨r,hr,rfl⟩:=List.mem_map.1 hg; exact hl r hr
 constructor
 ·have hp:=parts_pend (prepC c l).cur l (prepC c l) (by intro h hh; rw [show pendH (prepC c l)=pendH c from rfl,h3] at hh; cases hh)
  obtain ⟨s,q,e⟩:=parts_only (prepC c l).cur l (prepC c l)
  rw [e] at hp ⊢
  exact ⟨h1,h2,.inr (.inr (.inl ⟨hp,rfl,h4,hk⟩))⟩
 ·refine parts_fine _ _ _ hl ⟨hf.guess,hf.reqs,hf.rngs,hpt,hf.asked,hf.doubts,?_,hf.nmem⟩
  intro hc _
  simp only [prepC,newO] at hc
  split at hc
  ·assumption
  ·cases hc
theorem runW_work {c:Cl} (hf:Fine c) (hb:Base c) {w:Wts} (hk:kindW c w):Work (runW c w)∧Fine (runW c w):=by
 cases w with
 | read x=>exact readF_work hf hb hk.2.2 ⟨hk.1,hk.2.1⟩ _ _
 | prep=>exact prepareF_work hf hb (.inl ⟨hk.1,hk.2.1⟩)
 | snap=>exact prepareF_work hf hb (.inr ⟨hk.1,hk.2.1⟩)
 | kept x=>exact keptF_work hf hb hk.2 hk.1 _ _
 | again x=>exact keptF_work hf hb hk.2 hk.1 _ _
theorem mappedF_work {c:Cl} (hf:Fine c) (hb:Base c) {w:Wts} (hk:kindW c w):Work (mappedF c w)∧Fine (mappedF c w):=by
 unfold mappedF
 split
 ·obtain ⟨h1,h2,h3,h4,h5⟩:=hb
  refine ⟨⟨h1,h2,.inl ⟨h3,h5,w,rfl,?_⟩⟩,⟨hf.guess,hf.reqs,hf.rngs,hf.parts,hf.asked,hf.doubts,hf.coord,hf.nmem⟩⟩
  cases w<;>exact hk
 ·exact runW_work hf hb hk
theorem startF_same (c:Cl):∃ c1,(c1=c∨∃ s r k,c1={ c with started:=s,round:=r,coord:=some k }∧c.coord.isSome=true)∧Same c1 (startF c):=by
 unfold startF
 split
 ·exact ⟨c,.inl M,Same.refl c⟩
 ·rename_i k hk
  exact ⟨_,.inr ⟨_,_,_,rfl,by rw [hk]; rfl⟩,(putsF_same _ _).1⟩
theorem startF_work {c:Cl} (h:Work c) (hf:Fine c) (hs:c.coord.isSome=true):Work (startF c)∧Fine (startF c):=by
 obtain ⟨c1,h1,h2⟩:=startF_same c
 have:Work c1∧Fine c1:=by
  rcases h1 with rfl|⟨s,r,k,rfl,hc⟩
  ·exact ⟨h,hf⟩
  ·refine ⟨⟨h.1,h.2.1,?_⟩,⟨hf.guess,hf.reqs,hf.rngs,hf.parts,hf.asked,hf.doubts,fun _ ho=>hf.coord hc ho,hf.nmem⟩⟩
   rcases h.2.2 with ⟨_,e,_⟩|⟨_,_,e,_⟩|⟨a,b,d,e⟩|⟨a,b,d,e,f,g⟩
   ·rw [e] at hc; cases hc
   ·rw [e] at hc; cases hc
   ·exact .inr (.inr (.inl ⟨a,b,d,e⟩))
   ·exact .inr (.inr (.inr ⟨a,b,d,rfl,f,g⟩))
 exact ⟨(same_pres h2).1 this.1,this.2.same h2⟩
theorem resolveF_work {c:Cl} (hf:Fine c) (hb:Base c) (ho:c.own=false) {d:Dbt} (hd:d∈c.doubts) (hk:c.kind=6∨c.kind=9):Work (resolveF c d)∧Fine (resolveF c d):=by
 obtain ⟨h1,h2,h3,h4,h5⟩:=hb
 have hn:=(hf.doubts d hd).2
 unfold resolveF
 have hco:newO c.addr d.id d.parts c.accs=some (newC c.addr d.id d.parts c.accs):=by unfold newO; rw [if_pos hn]
 refine startF_work ⟨h1,h2,.inr (.inr (.inr ⟨h3,h4,ho,by rw [hco]; rfl,⟨d,hd,rfl⟩,hk⟩))⟩ ⟨hf.guess,hf.reqs,hf.rngs,hf.parts,hf.asked,hf.doubts,fun _ h=>?_,hf.nmem⟩ (by rw [hco]; rfl)
 simp only at h; rw [ho] at h; cases h
theorem pendH_drop (c:Cl):pendH (dropF c)=[]:=by
 unfold pendH dropF
 simp [List.filter_filter]
theorem Fine.drop {c:Cl} (h:Fine c):Fine (dropF c):=by
 refine ⟨h.guess,?_,h.rngs,h.parts,h.asked,h.doubts,h.coord,h.nmem⟩
 intro r hr
 obtain ⟨q,hq,rfl⟩:=List.mem_map.1 hr
 exact h.reqs _ (List.mem_map.2 ⟨q,(List.mem_filter.1 hq).1,rfl⟩)
theorem Fine.noCoord {c:Cl} (h:Fine c):Fine { c with coord:=none }:=⟨h.guess,h.reqs,h.rngs,h.parts,h.asked,h.doubts,(fun h=>by cases h),h.nmem⟩
theorem closeF_said {c:Cl} (e:Int) (hf:Fine c) (hp:pendH c=[]) (hc:c.coord=none):Said (closeF c e)∧Fine (closeF c e):=by
 unfold closeF
 split
 ·exact ⟨sayF_said _ hp hc,hf.say _⟩
 ·exact ⟨sayF_said _ hp hc,(hf.opn false).say _⟩
theorem doubt_mem {c:Cl} (h:∃ d∈c.doubts,d.id=c.about):doubtF c∈c.doubts:=by
 unfold doubtF
 cases hd:c.doubts.find? (fun d=>decide (d.id=c.about)) with
 | none=>obtain ⟨d,h1,h2⟩:=h; have:=List.find?_eq_none.1 hd d h1; simp [h2] at this
 | some d=>exact List.mem_of_find?_eq_some hd
theorem Fine.clear {c:Cl} (h:Fine c):Fine (clearF c):=h.drop.noCoord
theorem pendH_clear (c:Cl):pendH (clearF c)=[]:=pendH_drop c
theorem nextF_ok {c:Cl} (hf:Fine c) (hb:Base c) (ho:c.own=false) (hk:c.kind=6∨c.kind=9) (v:Int):(Work (nextF c v)∨Said (nextF c v))∧Fine (nextF c v):=by
 unfold nextF
 split
 ·exact ⟨.inr (sayF_said _ hb.2.2.1 hb.2.2.2.2),hf.say _⟩
 ·split
  ·exact ⟨.inr (sayF_said _ hb.2.2.1 hb.2.2.2.2),hf.say _⟩
  ·rename_i d2 l hdl
   obtain ⟨a,b⟩:=resolveF_work hf hb ho (d:=d2) (by rw [hdl]; simp) hk
   exact ⟨.inl a,b⟩
theorem comeF_ok {c:Cl} (hf:Fine c) (hb:c.busy=true∧Quiet c) (hw:c.waits=none) (hph:c.own=true∨(c.own=false∧(∃ d∈c.doubts,d.id=c.about)∧(c.kind=6∨c.kind=9))) (v:Int):(Work (comeF c v)∨Said (comeF c v))∧Fine (comeF c v):=by
 unfold comeF
 have hf1:Fine (clearF c):=hf.clear
 have hp1:pendH (clearF c)=[]:=pendH_clear c
 split
 ·rename_i ho
  have h2:=tidyF_adds (clearF c) c.cur.id (groupsF c.cur) v hf.groups
  have hk:=adds_keep h2
  obtain ⟨a,b⟩:=closeF_said (cameF v) (hf1.adds h2) (by rw [pendH_adds h2,hp1]) (by rw [hk.2.2.1]; rfl)
  exact ⟨.inr a,b⟩
 ·rename_i ho
  have ho':c.own=false:=by simpa using ho
  rcases hph with hph|⟨-,hd,hkind⟩
  ·rw [hph] at ho'; cases ho'
  ·have hdm:doubtF c∈c.doubts:=doubt_mem hd
   generalize doubtF c=d at hdm
   have hf2:Fine { clearF c with doubts:=c.doubts.filter fun x=>decide (x.id≠d.id) }:=⟨hf1.guess,hf1.reqs,hf1.rngs,hf1.parts,hf1.asked,fun x hx=>hf.doubts x (List.mem_filter.1 hx).1,(fun h=>by cases h),hf.nmem⟩
   have h2:Adds { clearF c with doubts:=c.doubts.filter fun x=>decide (x.id≠d.id) } (solvedF (clearF c) d v):=tidyF_adds _ _ _ _ (hf.doubts d hdm).1
   have hk:=adds_keep h2
   have hb2:Base { clearF c with doubts:=c.doubts.filter fun x=>decide (x.id≠d.id) }:=⟨hb.1,hb.2,hp1,hw,rfl⟩
   exact nextF_ok (hf2.adds h2) (hb2.adds h2) (by rw [hk.2.2.2.1]; exact ho') (by rw [hk.2.2.2.2.2.1]; exact hkind) v
theorem overF_said {c:Cl} (hf:Fine c) (h:Work c):Said (overF c)∧Fine (overF c):=by
 unfold overF
 have hf1:Fine (clearF c):=hf.clear
 have hp1:pendH (clearF c)=[]:=pendH_clear c
 split
 ·rename_i hk
  split
  ·rename_i hc
   have ho:c.own=true:=by
    rcases h.2.2 with ⟨_,e,_⟩|⟨_,_,e,_⟩|⟨a,b,d,e⟩|⟨a,b,d,e,f,g⟩
    ·rw [e] at hc; cases hc
    ·rw [e] at hc; cases hc
    ·exact b
    ·omega
   refine closeF_said 25 ⟨hf1.guess,hf1.reqs,hf1.rngs,hf1.parts,hf1.asked,?_,(fun h=>by cases h),hf.nmem⟩ hp1 M
   intro d hd
   rcases List.mem_append.1 hd with hd|hd
   ·exact hf.doubts d hd
   ·rw [List.mem_singleton] at hd; subst hd
    exact ⟨hf.groups,hf.coord hc ho⟩
  ·have h2:=tidyF_adds (clearF c) c.cur.id (groupsF c.cur) 2 hf.groups
   have hk:=adds_keep h2
   have hf2:=hf1.adds h2
   have hp2:=(pendH_adds h2).trans hp1
   have hc2:(tidyF (clearF c) c.cur.id (groupsF c.cur) 2).coord=none:=by rw [hk.2.2.1]; rfl
   generalize tidyF (clearF c) c.cur.id (groupsF c.cur) 2=c2 at hf2 hp2 hc2
   exact closeF_said 24 ⟨hf2.guess,hf2.reqs,hf2.rngs,hf2.parts,hf2.asked,hf2.doubts,(fun h=>by rw [hc2] at h; cases h),hf2.nmem⟩ hp2 hc2
 ·split
  ·exact lostF_said 0 hf1 hp1 M
  ·split
   ·exact ⟨sayF_said _ hp1 M,hf1.say _⟩
   ·exact ⟨sayF_said _ hp1 M,hf1.say _⟩
set_option maxHeartbeats 16000000
set_option maxRecDepth 4000
attribute [local irreducible] Hold HoldL HoldW
abbrev pB (b:Nat):Value:=.pointer (some ⟨b,0,none⟩)
instance repSpn :Rep Spn where
 tid:=78
 size:=2
 rd:=fun _ _ x e=>e=[.int .i64 x.lo,.int .i64 x.hi]
 len:=by rintro _ _ _ _ rfl; rfl
 one:=by rintro _ _ _ _ rfl u hu; simp at hu; rcases hu with rfl|rfl<;>rfl
 mono:=fun _ h=>h
instance repDbt :Rep Dbt where
 tid:=195
 size:=3
 rd:=fun w0 L x e=>∃ a c a2 c2,e=[.int .i64 x.id,.slice a x.parts.length c,.slice a2 x.groups.length c2]∧RdL w0 L (.slice a x.parts.length c) x.parts∧RdL w0 L (.slice a2 x.groups.length c2) x.groups
 len:=by rintro _ _ _ _ ⟨_,_,_,_,rfl,_⟩; rfl
 one:=by
  rintro _ _ _ _ ⟨_,_,_,_,rfl,h,k⟩ u hu
  simp only [List.mem_cons,List.not_mem_nil,or_false] at hu
  rcases hu with rfl|rfl|rfl<;>rfl
 mono:=by rintro _ _ _ _ _ _ e ⟨_,_,_,_,rfl,h,k⟩; exact ⟨_,_,_,_,rfl,h.mono e,k.mono e⟩
instance repPkt :Rep Pkt where
 tid:=52
 size:=3
 rd:=fun w0 L x e=>∃ a c,e=[.int .i64 x.src,.int .i64 x.dst,.slice a x.bytes.length c]∧RdL w0 L (.slice a x.bytes.length c) x.bytes∧x.bytes.length≤c
 len:=by rintro _ _ _ _ ⟨_,_,rfl,_⟩; rfl
 one:=by
  rintro _ _ _ _ ⟨_,_,rfl,h⟩ u hu
  simp only [List.mem_cons,List.not_mem_nil,or_false] at hu
  rcases hu with rfl|rfl|rfl<;>rfl
 mono:=by rintro _ _ _ _ _ _ e ⟨_,_,rfl,h,k⟩; exact ⟨_,_,rfl,h.mono e,k⟩
theorem OwL.capOf {α:Type} [ρ:Rep α] {w0:World} {X h:Hp} {xs:List α} {a:Option Addr} {n c:Nat} (H:OwL w0 X xs (.slice a n c) h):xs.length≤c:=by
 obtain ⟨es,⟨h1,⟨ad,hv,hnil,_⟩|⟨bk,cap,spare,hv,rfl,h2,_⟩⟩,h4⟩:=H
 ·subst hnil
  have h5:xs.length=0:=(All2.length h4).symm
  omega
 ·have:=All2.length h4
  simp only [Value.slice.injEq] at hv
  omega
structure PRq where
 blk:Nat
instance repPRq :Rep PRq where
 tid:=142
 size:=1
 rd:=fun _ _ x e=>e=[pB x.blk]
 len:=by rintro _ _ _ _ rfl; rfl
 one:=by rintro _ _ _ _ rfl u hu; simp at hu; subst hu; rfl
 mono:=fun _ h=>h
abbrev cellsX (x:Cal) (d:Value):List Value:=[.int .i64 x.kind,.int .i64 x.block,.int .i64 x.set,.int .i64 x.snap,.int .i64 x.txn,.int .i64 x.src,.int .i64 x.dst,.int .i64 x.lo,.int .i64 x.hi,.int .i64 x.group,.int .i64 x.node,.int .i64 x.value,d]
def HeardAt (w0:World) (X:Hp) (b tb:Nat):Hrd→Value→Prop
 | .quiet,v=>v=.func (.func 280) #[] #[]
 | .look,v=>∃ p,v=.func (.func 353) #[] [pB p].toArray∧At w0 X p 0 [pB b]
 | .read n,v=>∃ p q r,v=.func (.func 223) #[] [pB p,pB q,pB r].toArray∧At w0 X p 0 [pB tb]∧At w0 X q 0 [.int .i64 n]∧At w0 X r 0 [pB b]
 | .part o g,v=>∃ p q r s t e,v=.func (.func 294) #[] [pB p,pB q,pB r,pB s].toArray∧At w0 X p 0 [pB b]∧At w0 X q 0 [.pointer t]∧At w0 X r 0 e∧Rep.rd w0 X o e∧At w0 X s 0 [.int .i64 g]
 | .kept x,v=>∃ p q d,v=.func (.func 232) #[] [pB p,pB q].toArray∧At w0 X p 0 [pB b]∧At w0 X q 0 (cellsX x d)
 | .plan x,v=>∃ p q r s d,v=.func (.func 235) #[] [pB p,pB q].toArray∧At w0 X p 0 [pB b]∧At w0 X q 0 [.func (.func 161) #[] [pB r,pB s].toArray]∧At w0 X r 0 [pB b]∧At w0 X s 0 (cellsX x d)
 | .frz x n,v=>∃ p q r d,v=.func (.func 238) #[] [pB p,pB q,pB r].toArray∧At w0 X p 0 [pB b]∧At w0 X q 0 (cellsX x d)∧At w0 X r 0 [.int .i64 n]
 | .inst x n,v=>∃ p q r s t d,v=.func (.func 235) #[] [pB p,pB q].toArray∧At w0 X p 0 [pB b]∧At w0 X q 0 [.func (.func 299) #[] [pB r,pB s,pB t].toArray]∧At w0 X r 0 [pB b]∧At w0 X s 0 [.int .i64 n]∧At w0 X t 0 (cellsX x d)
 | .fin x n,v=>∃ p q r s t d,v=.func (.func 235) #[] [pB p,pB q].toArray∧At w0 X p 0 [pB b]∧At w0 X q 0 [.func (.func 300) #[] [pB r,pB s,pB t].toArray]∧At w0 X r 0 [pB b]∧At w0 X s 0 (cellsX x d)∧At w0 X t 0 [.int .i64 n]
 | .change x,v=>∃ p q d,v=.func (.func 240) #[] [pB p,pB q].toArray∧At w0 X p 0 [pB b]∧At w0 X q 0 (cellsX x d)
def WaitAt (w0:World) (X:Hp) (b tb:Nat):Option Wts→Value→Prop
 | none,v=>v=.nilFunc
 | some (.read x),v=>∃ p q d,v=.func (.func 147) #[] [pB p,pB q].toArray∧At w0 X p 0 [pB b]∧At w0 X q 0 (cellsX x d)
 | some .prep,v=>∃ p q,v=.func (.func 153) #[] [pB p,pB q].toArray∧At w0 X p 0 [pB b]∧At w0 X q 0 [pB tb]
 | some .snap,v=>∃ p q,v=.func (.func 155) #[] [pB p,pB q].toArray∧At w0 X p 0 [pB b]∧At w0 X q 0 [pB tb]
 | some (.kept x),v=>∃ p q d,v=.func (.func 156) #[] [pB p,pB q].toArray∧At w0 X p 0 [pB b]∧At w0 X q 0 (cellsX x d)
 | some (.again x),v=>∃ p q d,v=.func (.func 234) #[] [pB p,pB q].toArray∧At w0 X p 0 [pB b]∧At w0 X q 0 (cellsX x d)
theorem At.mono {w0:World} {X L R:Hp} (e:L=X+R) {b o:Nat} {c:List Value} (h:At w0 X b o c):At w0 L b o c:=At.frame (hf:=⟨e⟩) h
section
variable {w0:World} {X L R:Hp} {b tb:Nat}
theorem HeardAt.mono (e:L=X+R) {h:Hrd} {v:Value} (H:HeardAt w0 X b tb h v):HeardAt w0 L b tb h v:=by
 cases h with
 | quiet=>exact H
 | look=>obtain ⟨p,e1,h1⟩:=H; exact ⟨p,e1,h1.mono e⟩
 | read n=>obtain ⟨p,q,r,e1,h1,h2,h3⟩:=H; exact ⟨p,q,r,e1,h1.mono e,h2.mono e,h3.mono e⟩
 | part o g=>obtain ⟨p,q,r,s,t,c,e1,h1,h2,h3,h4,h5⟩:=H; exact ⟨p,q,r,s,t,c,e1,h1.mono e,h2.mono e,h3.mono e,Rep.mono e h4,h5.mono e⟩
 | kept x=>obtain ⟨p,q,d,e1,h1,h2⟩:=H; exact ⟨p,q,d,e1,h1.mono e,h2.mono e⟩
 | plan x=>obtain ⟨p,q,r,s,d,e1,h1,h2,h3,h4⟩:=H; exact ⟨p,q,r,s,d,e1,h1.mono e,h2.mono e,h3.mono e,h4.mono e⟩
 | frz x n=>obtain ⟨p,q,r,d,e1,h1,h2,h3⟩:=H; exact ⟨p,q,r,d,e1,h1.mono e,h2.mono e,h3.mono e⟩
 | inst x n=>obtain ⟨p,q,r,s,t,d,e1,h1,h2,h3,h4,h5⟩:=H; exact ⟨p,q,r,s,t,d,e1,h1.mono e,h2.mono e,h3.mono e,h4.mono e,h5.mono e⟩
 | fin x n=>obtain ⟨p,q,r,s,t,d,e1,h1,h2,h3,h4,h5⟩:=H; exact ⟨p,q,r,s,t,d,e1,h1.mono e,h2.mono e,h3.mono e,h4.mono e,h5.mono e⟩
 | change x=>obtain ⟨p,q,d,e1,h1,h2⟩:=H; exact ⟨p,q,d,e1,h1.mono e,h2.mono e⟩
theorem HeardAt.shape {h:Hrd} {v:Value} (H:HeardAt w0 X b tb h v):∃ k cp,v=.func (.func k) #[] cp:=by
 cases h with
 | quiet=>exact ⟨_,_,H⟩
 | look=>obtain ⟨p,e1,h1⟩:=H; exact ⟨_,_,e1⟩
 | read n=>obtain ⟨p,q,r,e1,_⟩:=H; exact ⟨_,_,e1⟩
 | part o g=>obtain ⟨p,q,r,s,t,c,e1,_⟩:=H; exact ⟨_,_,e1⟩
 | kept x=>obtain ⟨p,q,d,e1,_⟩:=H; exact ⟨_,_,e1⟩
 | plan x=>obtain ⟨p,q,r,s,d,e1,_⟩:=H; exact ⟨_,_,e1⟩
 | frz x n=>obtain ⟨p,q,r,d,e1,_⟩:=H; exact ⟨_,_,e1⟩
 | inst x n=>obtain ⟨p,q,r,s,t,d,e1,_⟩:=H; exact ⟨_,_,e1⟩
 | fin x n=>obtain ⟨p,q,r,s,t,d,e1,_⟩:=H; exact ⟨_,_,e1⟩
 | change x=>obtain ⟨p,q,d,e1,_⟩:=H; exact ⟨_,_,e1⟩
theorem HeardAt.free {h:Hrd} (hf:tfree h=true) {v:Value} {tb':Nat} (H:HeardAt w0 X b tb h v):HeardAt w0 X b tb' h v:=by
 cases h<;>first|exact H|cases hf
theorem WaitAt.mono (e:L=X+R) {h:Option Wts} {v:Value} (H:WaitAt w0 X b tb h v):WaitAt w0 L b tb h v:=by
 cases h with
 | none=>exact H
 | some w=>cases w with
  | read x=>obtain ⟨p,q,d,e1,h1,h2⟩:=H; exact ⟨p,q,d,e1,h1.mono e,h2.mono e⟩
  | prep=>obtain ⟨p,q,e1,h1,h2⟩:=H; exact ⟨p,q,e1,h1.mono e,h2.mono e⟩
  | snap=>obtain ⟨p,q,e1,h1,h2⟩:=H; exact ⟨p,q,e1,h1.mono e,h2.mono e⟩
  | kept x=>obtain ⟨p,q,d,e1,h1,h2⟩:=H; exact ⟨p,q,d,e1,h1.mono e,h2.mono e⟩
  | again x=>obtain ⟨p,q,d,e1,h1,h2⟩:=H; exact ⟨p,q,d,e1,h1.mono e,h2.mono e⟩
abbrev reqL (r:Rq) (p q w d hv:Value):List Value :=
 .int .i64 r.group::.int .i64 r.o.kind::.int .i64 r.o.client::.int .i64 r.o.seq::.int .i64 r.o.txn::.int .i64 r.o.age::.int .i64 r.o.epoch::.int .i64 r.o.lo::.int .i64 r.o.hi::.int .i64 r.o.block::.int .i64 r.o.snap::.int .i64 r.o.value::.int .i64 r.o.src::.int .i64 r.o.dst::p::q::w::d::.int .i64 r.frm::.int .i64 r.sent::.bool r.tidy::hv::[]
abbrev reqC (b:Nat) (c:List Value):Hp:=pt b (.cells c.toArray 145 (0,0))
def RqAt (w0:World) (X:Hp) (b tb:Nat) (p:Nat) (r:Rq) (h:Hp):Prop :=
 ∃ a1 c1 a2 c2 a3 c3 a4 c4 hv,h=reqC p (reqL r (.slice a1 r.o.parts.length c1) (.slice a2 r.o.reads.length c2) (.slice a3 r.o.writes.length c3) (.slice a4 r.o.data.length c4) hv) ∧
  RdL w0 X (.slice a1 r.o.parts.length c1) r.o.parts∧RdL w0 X (.slice a2 r.o.reads.length c2) r.o.reads∧RdL w0 X (.slice a3 r.o.writes.length c3) r.o.writes∧RdL w0 X (.slice a4 r.o.data.length c4) r.o.data∧HeardAt w0 X b tb r.heard hv
theorem RqAt.mono (e:L=X+R) {p:Nat} {r:Rq} {h:Hp} (H:RqAt w0 X b tb p r h):RqAt w0 L b tb p r h:=by
 obtain ⟨a1,c1,a2,c2,a3,c3,a4,c4,hv,e1,h1,h2,h3,h4,h5⟩:=H
 exact ⟨a1,c1,a2,c2,a3,c3,a4,c4,hv,e1,h1.mono e,h2.mono e,h3.mono e,h4.mono e,h5.mono e⟩
def RqsAt (w0:World) (X:Hp) (b tb:Nat):List PRq→List Rq→Hp→Prop
 | [],[],h=>h=0
 | p::ps,r::rs,h=>∃ h1 h2,RqAt w0 X b tb p.blk r h1∧RqsAt w0 X b tb ps rs h2∧h=h1+h2
 | _,_,_=>False
theorem RqsAt.mono (e:L=X+R):∀ {ps:List PRq} {rs:List Rq} {h:Hp},RqsAt w0 X b tb ps rs h→RqsAt w0 L b tb ps rs h
 | [],[],_,H=>H
 | p::ps,r::rs,_,⟨h1,h2,a,c,d⟩=>⟨h1,h2,a.mono e,RqsAt.mono e c,d⟩
 | [],_::_,_,H=>H.elim
 | _::_,[],_,H=>H.elim
theorem RqsAt.length :∀ {ps:List PRq} {rs:List Rq} {h:Hp},RqsAt w0 X b tb ps rs h→ps.length=rs.length
 | [],[],_,H=>rfl
 | p::ps,r::rs,_,⟨h1,h2,a,c,d⟩=>by simp [RqsAt.length c]
 | [],_::_,_,H=>H.elim
 | _::_,[],_,H=>H.elim
theorem RqsAt.get :∀ {ps:List PRq} {rs:List Rq} {h:Hp},RqsAt w0 X b tb ps rs h→∀ {i:Nat} {r:Rq},rs[i]?=some r →
  ∃ p h1 h2,ps[i]?=some p∧RqAt w0 X b tb p.blk r h1∧h=h1+h2∧(∀ {r' h'},RqAt w0 X b tb p.blk r' h'→RqsAt w0 X b tb ps (rs.set i r') (h'+h2))∧RqsAt w0 X b tb (ps.eraseIdx i) (rs.eraseIdx i) h2
 | p::ps,r::rs,_,⟨h1,h2,a,c,d⟩,0,r',hr=>by
  obtain rfl:r=r':=by simpa using hr
  exact ⟨p,h1,h2,rfl,a,d,fun {r' h'} H=>⟨h',h2,H,c,rfl⟩,c⟩
 | p::ps,r::rs,_,⟨h1,h2,a,c,d⟩,i+1,r',hr=>by
  obtain ⟨q,g1,g2,e1,e2,e3,e4,e5⟩:=RqsAt.get c (i:=i) (r:=r') (by simpa using hr)
  refine ⟨q,g1,h1+g2,by simpa using e1,e2,by rw [d,e3]; ac_rfl,fun {r' h'} H=>⟨h1,h'+g2,a,e4 H,by ac_rfl⟩,⟨h1,g2,a,e5,rfl⟩⟩
 | [],[],_,_,_,_,hr=>by simp at hr
 | [],_::_,_,H,_,_,_=>H.elim
 | _::_,[],_,H,_,_,_=>H.elim
theorem RqsAt.append :∀ {ps:List PRq} {rs:List Rq} {h:Hp},RqsAt w0 X b tb ps rs h→∀ {p:Nat} {r:Rq} {h':Hp},RqAt w0 X b tb p r h'→RqsAt w0 X b tb (ps++[⟨p⟩]) (rs++[r]) (h'+h)
 | [],[],_,H,p,r,h',H'=>by obtain rfl:=(show _=_ from H); exact ⟨h',0,H',rfl,rfl⟩
 | p::ps,r::rs,_,⟨h1,h2,a,c,d⟩,q,r',h',H'=>by subst d; exact ⟨h1,h'+h2,a,RqsAt.append c H',by ac_rfl⟩
 | [],_::_,_,H,_,_,_,_=>H.elim
 | _::_,[],_,H,_,_,_,_=>H.elim
theorem RqsAt.free {tb':Nat}:∀ {ps:List PRq} {rs:List Rq} {h:Hp},RqsAt w0 X b tb ps rs h→(∀ r∈rs,tfree r.heard=true)→RqsAt w0 X b tb' ps rs h
 | [],[],_,H,_=>H
 | p::ps,r::rs,_,⟨h1,h2,a,c,d⟩,hf=>by
  obtain ⟨a1,c1,a2,c2,a3,c3,a4,c4,hv,e1,k1,k2,k3,k4,k5⟩:=a
  exact ⟨h1,h2,⟨a1,c1,a2,c2,a3,c3,a4,c4,hv,e1,k1,k2,k3,k4,k5.free (hf r (by simp))⟩,RqsAt.free c fun x hx=>hf x (by simp [hx]),d⟩
 | [],_::_,_,H,_=>H.elim
 | _::_,[],_,H,_=>H.elim
def ReqsAt (w0:World) (X:Hp) (b tb:Nat) (ps:List PRq) (rs:List Rq) (v:Value) (h:Hp):Prop:=∃ h1 h2,OwL w0 0 ps v h1∧RqsAt w0 X b tb ps rs h2∧h=h1+h2
theorem ReqsAt.intro {w0:World} {X:Hp} {b tb:Nat} {ps:List PRq} {rs:List Rq} {v:Value} {h1 h2:Hp} (H1:OwL w0 0 ps v h1) (H2:RqsAt w0 X b tb ps rs h2):ReqsAt w0 X b tb ps rs v (h1+h2):=⟨h1,h2,H1,H2,rfl⟩
def TxnAt (w0:World) (X:Hp) (tb:Nat) (t:Txn) (h:Hp):Prop :=
 ∃ vr va vw ap cp hr ha hw,h=txnC tb (.int .i64 t.id::.int .i64 t.age::vr::va::vw::.slice ap t.parts.length cp::.int .i64 t.slo::.int .i64 t.shi::[])+(hr+(ha+hw)) ∧
  OwL w0 X t.reads vr hr∧OwL w0 0 t.asked va ha∧OwL w0 X t.writes vw hw∧RdL w0 X (.slice ap t.parts.length cp) t.parts
theorem TxnAt.mono (e:L=X+R) {t:Txn} {h:Hp} (H:TxnAt w0 X tb t h):TxnAt w0 L tb t h:=by
 obtain ⟨vr,va,vw,ap,cp,hr,ha,hw,e1,h1,h2,h3,h4⟩:=H
 exact ⟨vr,va,vw,ap,cp,hr,ha,hw,e1,h1.mono e,h2,h3.mono e,h4.mono e⟩
end
structure Raw where
 mem:Value
 rngs0:Value
 sets:Value
 mr:Value
 guess:Value
 ended:Value
 dbts:Value
 reqs:Value
 opn:Value
 own:Value
 waits:Value
 coord:Value
 out:Value
 ansd:Value
abbrev clL (c:Cl) (V:Raw):List Value :=
 .int .i64 c.nodes::.int .i64 c.accs::.int .i64 c.clis::V.mem::V.rngs0::V.sets::.int .i64 c.id::.int .i64 c.addr::.int .i64 c.clock::.int .i64 c.seq::.int .i64 c.txns::V.mr::.int .i64 c.m.epoch::.int .i64 c.m.m1::.int .i64 c.m.m2::.int .i64 c.m.m3::.int .i64 c.m.m4::.int .i64 c.m.m5::.bool c.stale::V.guess::V.ended::V.dbts::.int .i64 c.round::V.reqs::V.opn::.bool c.busy::.int .i64 c.kind::.int .i64 c.since::V.own::V.waits::V.coord::.int .i64 c.about::.int .i64 c.started::V.out::.int .i64 c.ans.code::.int .i64 c.ans.txn::V.ansd::.bool c.answered::[]
abbrev ptrIf (f:Bool) (tb:Nat):Value:=.pointer (bif f then some ⟨tb,0,none⟩ else none)
structure Parts (w0:World) (X:Hp) (b:Nat) (c:Cl) (V:Raw) (tb:Nat) (ps:List PRq) (hG hE hD hR hT hK hO:Hp):Prop where
 mem:∃ a k,V.mem=.slice a c.nmem k
 rngs0:V.rngs0.oneCell'=true
 sets:∃ a k,V.sets=.slice a c.sets.length k∧RdL w0 X (.slice a c.sets.length k) c.sets
 mr:∃ a k,V.mr=.slice a c.m.rngs.length k∧RdL w0 X (.slice a c.m.rngs.length k) c.m.rngs
 guess:OwL w0 0 c.guess V.guess hG
 ended:∃ eb,V.ended=.map (some eb)∧MapAt Tryz.prog eb (vI c.ended) hE
 dbts:OwL w0 X c.doubts V.dbts hD
 reqs:ReqsAt w0 X b tb ps c.reqs V.reqs hR
 opn:V.opn=ptrIf c.opn tb
 own:V.own=ptrIf c.own tb
 txn:TxnAt w0 X tb c.cur hT∨(c.opn=false∧c.own=false∧hT=0)
 waits:WaitAt w0 X b tb c.waits V.waits
 coord:match c.coord with
  | none=>V.coord=.pointer none∧hK=0
  | some k=>∃ kb,V.coord=pB kb∧CooAt w0 kb k hK
 out:OwL w0 X c.out V.out hO
 ansd:∃ a k,V.ansd=.slice a c.ans.data.length k∧RdL w0 X (.slice a c.ans.data.length k) c.ans.data
def CliT (w0:World) (X:Hp) (b tb:Nat) (c:Cl) (S:Hp):Prop :=
 ∃ V ps hG hE hD hR hT hK hO,Parts w0 X b c V tb ps hG hE hD hR hT hK hO∧S=cliC b (clL c V)+(hG+(hE+(hD+(hR+(hT+(hK+hO))))))
def CliL (w0:World) (X:Hp) (b tb:Nat) (c:Cl) (p:Nat) (S:Hp):Prop :=
 ∃ V ps hG hE hD hR hT hK hO,Parts w0 X b c V tb (ps++[⟨p⟩]) hG hE hD hR hT hK hO∧S=cliC b (clL c V)+(hG+(hE+(hD+(hR+(hT+(hK+hO))))))
section
variable {w0:World} {X L R:Hp} {b tb:Nat} {c:Cl} {S:Hp}
theorem Parts.mono (e:L=X+R) {V:Raw} {tb:Nat} {ps:List PRq} {hG hE hD hR hT hK hO:Hp} (H:Parts w0 X b c V tb ps hG hE hD hR hT hK hO):Parts w0 L b c V tb ps hG hE hD hR hT hK hO:=by
 obtain ⟨h1,h2,⟨a1,k1,e1,g1⟩,⟨a2,k2,e2,g2⟩,h5,h6,h7,⟨r1,r2,r3,r4,r5⟩,h9,h10,h11,h12,h13,h14,⟨a3,k3,e3,g3⟩⟩:=H
 exact ⟨h1,h2,⟨a1,k1,e1,g1.mono e⟩,⟨a2,k2,e2,g2.mono e⟩,h5,h6,h7.mono e,⟨r1,r2,r3,r4.mono e,r5⟩,h9,h10,h11.imp (fun h=>h.mono e) id,h12.mono e,h13,h14.mono e,⟨a3,k3,e3,g3.mono e⟩⟩
theorem CliT.mono (e:L=X+R) (H:CliT w0 X b tb c S):CliT w0 L b tb c S:=by
 obtain ⟨V,ps,hG,hE,hD,hR,hT,hK,hO,hp,rfl⟩:=H
 exact ⟨V,ps,hG,hE,hD,hR,hT,hK,hO,hp.mono e,rfl⟩
theorem CliL.cli {p:Nat} (H:CliL w0 X b tb c p S):CliT w0 X b tb c S:=by
 obtain ⟨V,ps,hG,hE,hD,hR,hT,hK,hO,hp,rfl⟩:=H
 exact ⟨V,ps++[⟨p⟩],hG,hE,hD,hR,hT,hK,hO,hp,rfl⟩
def After (w0:World) (X:Hp) (b tb:Nat) (c:Cl) (h:Hp):Prop:=∃ E S,CliT w0 (X+E) b tb c S∧X+E+S=h
theorem After.trans {E:Hp} {h:Hp} (H:After w0 (X+E) b tb c h):After w0 X b tb c h:=by
 obtain ⟨F,S,h1,h2⟩:=H
 exact ⟨E+F,S,by rw [← hadd_assoc]; exact h1,by rw [← hadd_assoc]; exact h2⟩
theorem After.now (H:CliT w0 X b tb c S):After w0 X b tb c (X+S):=⟨0,S,by rw [yA]; exact H,by rw [yA]⟩
def Now (w0:World) (X:Hp) (b tb:Nat) (c:Cl) (h:Hp):Prop:=∃ S,CliT w0 X b tb c S∧X+S=h
theorem Now.after {h:Hp} (H:Now w0 X b tb c h):After w0 X b tb c h:=by obtain ⟨S,h1,rfl⟩:=H; exact After.now h1
theorem RqsAt.last :∀ {ps:List PRq} {rs:List Rq} {p:Nat} {r:Rq} {h:Hp},RqsAt w0 X b tb (ps++[⟨p⟩]) (rs++[r]) h→∃ h1 h2,RqAt w0 X b tb p r h1∧RqsAt w0 X b tb ps rs h2∧h=h1+h2
 | [],[],p,r,h,⟨h1,h2,a,c,d⟩=>⟨h1,h2,a,c,d⟩
 | q::ps,r'::rs,p,r,h,⟨h1,h2,a,c,d⟩=>by
  obtain ⟨g1,g2,e1,e2,e3⟩:=RqsAt.last (ps:=ps) (rs:=rs) c
  exact ⟨g1,h1+g2,e1,⟨h1,g2,a,e2,rfl⟩,by rw [d,e3]; ac_rfl⟩
 | [],r'::rs,p,r,h,⟨h1,h2,a,c,d⟩=>by have:=RqsAt.length c; simp at this
 | q::ps,[],p,r,h,⟨h1,h2,a,c,d⟩=>by have:=RqsAt.length c; simp at this
theorem end_cli {P:Program} {V:Raw} {ps:List PRq} {hG hE hD hR hT hK hO L R R2 fr:Hp} {rs:List ResultVar} {g:Env} {post:Value→Hp→Prop} (vs:List Value) (hres:ResOk P w0 g L rs vs) {cs:List Value}
  (H:Parts w0 X b c V tb ps hG hE hD hR hT hK hO) [hb:HasPt b L (.cells cs.toArray 95 (0,0)) R] [hf:yJ (X+(hG+(hE+(hD+(hR+(hT+(hK+hO))))))+fr) R R2] (hcs:clL c V=cs)
  (hp:post (oneV vs) (X+(cliC b (clL c V)+(hG+(hE+(hD+(hR+(hT+(hK+hO))))))))):retD P w0 rs fr post .normal g L:=by
 subst hcs
 have e1:=hb.out
 have e2:=hf.out
 exact ⟨vs,_,R2,hres,hp,by rw [e1,e2]; simp only [cliC]; ac_rfl⟩
theorem ret_cli {P:Program} {V:Raw} {ps:List PRq} {hG hE hD hR hT hK hO L R R2 fr:Hp} {rs:List ResultVar} {g:Env} {post:Value→Hp→Prop} (vs:List Value) (hres:ResOk P w0 g L rs vs) {cs:List Value}
  (H:Parts w0 X b c V tb ps hG hE hD hR hT hK hO) [hb:HasPt b L (.cells cs.toArray 95 (0,0)) R] [hf:yJ (X+(hG+(hE+(hD+(hR+(hT+(hK+hO))))))+fr) R R2] (hcs:clL c V=cs)
  (hp:post (oneV vs) (X+(cliC b (clL c V)+(hG+(hE+(hD+(hR+(hT+(hK+hO))))))))):retD P w0 rs fr post .ret g L:=by
 subst hcs
 have e1:=hb.out
 have e2:=hf.out
 exact ⟨vs,_,R2,hres,hp,by rw [e1,e2]; simp only [cliC]; ac_rfl⟩
theorem Parts.now {V:Raw} {ps:List PRq} {hG hE hD hR hT hK hO:Hp} (H:Parts w0 X b c V tb ps hG hE hD hR hT hK hO):Now w0 X b tb c (X+(cliC b (clL c V)+(hG+(hE+(hD+(hR+(hT+(hK+hO)))))))):=⟨_,⟨V,ps,hG,hE,hD,hR,hT,hK,hO,H,rfl⟩,rfl⟩
end
set_option synthInstance.maxHeartbeats 400000
set_option synthInstance.maxSize 100000
theorem zeL {G G' : Prop} (h : G') (f : Zh G'→G:=by intro h; (repeat (first|refine zF ?_|refine zB ?_|refine zE ?_|refine zK M M M ?_|refine zY M M M M M ?_|refine zM ?_|refine L_st M M M (c':=(_::_::_::_::_::_::_::_::_::_::_::_::_::_::_::_::_::_::_::_::_::_::_::_::_::_::_::_::_::_::_::_::_::_::_::_::_::_::[])) M M M M ?_)); exact h.o) : G:=f ⟨h⟩
section
variable (w0:World) (X:Hp) (b tb:Nat) (c:Cl) (S:Hp)
theorem ask_spec (hS:CliT w0 X b tb c S) (g:Nat) (o:Opn) (oe:List Value) (ho:Rep.rd w0 X o oe) (later:Int) (hd:Hrd) (hv:Value) (hh:HeardAt w0 X b tb hd hv) (hs:0≤c.seq∧c.seq≤1000000000000) (hc:0≤c.clock∧c.clock≤1000000000000) (hl:0≤later∧later≤1) (hlen:c.reqs.length≤1000000000) :
  Spec Tryz.prog w0 222 [pB b,.int .i64 g,.agg oe.toArray,.int .i64 later,hv] (X+S)
   (fun r h'=>∃ p S',r=pB p∧CliL w0 X b tb (askF c g o later false hd) p S'∧X+S'=h'):=by
 obtain ⟨⟨vmem,vr0,vsets,vmr,vg,ve,vd,vrq,vop,vow,vw,vco,vou,van⟩,ps,hG,hE,hD,hR,hT,hK,hO,P,rfl⟩:=hS
 obtain ⟨r1,r2,r3,r4,rfl⟩:=P.reqs
 obtain ⟨a1,c1,a2,c2,a3,c3,a4,c4,rfl,q1,q2,q3,q4⟩:=ho
 have hlp:=r4.length
 obtain ⟨kf,cpf,rfl⟩:=hh.shape
 obtain ⟨ar,cr,hvr⟩:=r3.shape
 simp only at hvr
 subst hvr
 refine zN Tryz.func222 M Tryz.ntmps222 Tryz.results222 M fun fr=>?_
 repeat (first|refine zF ?_|refine zB ?_|refine zE ?_|refine zK M M M ?_|refine zY M M M M M ?_|refine L_ld M M M M M ?_|refine L_add M M (by omega) (by omega) M M ?_|refine L_st M M M (c':=(_::_::_::_::_::_::_::_::_::_::_::_::_::_::_::_::_::_::_::_::_::_::_::_::_::_::_::_::_::_::_::_::_::_::_::_::_::_::[])) M M M M ?_|refine L_box M (c:=[_,_,_,_,_,_,_,_,_,_,_,_,_,_,_,_,_]) M M M (fun _=>?_))
 rename_i bo
 refine yB [9,11] [0,1,2,3,4,5,6,7,8,9,10,11] (by kernel_rfl) M (by kernel_rfl) (by kernel_rfl) ?_
 refine zaF ?_
 refine W_eff M M M M (ev_store M M M M M (c':=[_,_,_,_,_,_,_,_,_,_,_,_,_,_,_,_,_]) M) (Kept.all _) ?_
 rintro _ _ rfl
 refine ⟨zka,?_⟩
 repeat (refine yD M M M M (zZ M M M) ?_)
 refine W_eff M M M M (ev_store M M M M M (c':=[_,_,_,_,_,_,_,_,_,_,_,_,_,_,_,_,_]) M) (Kept.all _) ?_
 rintro _ _ rfl
 refine ⟨zka,?_⟩
 repeat (refine yI ?_)
 repeat (refine zF ?_)
 refine yB [10] [0,1,2,3,4,5,6,7,8,9,10,11] (by kernel_rfl) M (by kernel_rfl) (by kernel_rfl) ?_
 repeat (first|refine yH M M M M M ?_|refine yD M M M M (zZ M M M) ?_|refine W_load M M M M (yE M) (zG M (zS M)) ?_|refine yD M M M M (pv_add M M (by omega) (by omega)) ?_|refine W_load M M M M (yE M) (zL (vs:=[_,_,_,_,_,_,_,_,_,_,_,_,_,_,_,_,_]) M M M) ?_|refine yD M M M M (pv_build (vs:=[_,_,_,_,_]) (cells:=[_,_,_,_,_,_,_,_,_,_,_,_,_,_,_,_,_,_,_,_,_,_]) M M) ?_)
 refine W_eff M M M M (ev_box M) (Kept.all _) ?_
 rintro _ _ ⟨bp,rfl,hL⟩
 have hL':_=reqC bp (.int .i64 g::.int .i64 o.kind::.int .i64 c.id::.int .i64 (c.seq+1)::.int .i64 o.txn::.int .i64 o.age::.int .i64 o.epoch::.int .i64 o.lo::.int .i64 o.hi::.int .i64 o.block::.int .i64 o.snap::.int .i64 o.value::.int .i64 o.src::.int .i64 o.dst::.slice a1 o.parts.length c1::.slice a2 o.reads.length c2::.slice a3 o.writes.length c3::.slice a4 o.data.length c4::.int .i64 (c.clock+later)::.int .i64 (-1)::.bool false::.func (.func kf) #[] cpf::[])+_:=hL
 subst hL'
 clear hL
 refine ⟨zka,?_⟩
 refine zaD ?_
 repeat (first|refine zF ?_|refine zB ?_|refine zK M M M ?_|refine zY M M M M M ?_|refine L_ld M M M M M ?_|refine L_bs (vs:=[_]) (cells:=[_]) M M M M M M (fun _=>?_))
 refine L_eff M M (ev_appendL (X:=0) (h:=r1) (ns:=[PRq.mk bp]) M M r3 (rd_one M) (All2.one M) M M M M M (by rw [hlp,List.length_singleton]; omega)) ?_
 rintro v5 _ ⟨h5,ho5,rfl⟩
 obtain ⟨a5,c5,rfl⟩:=ho5.shape
 refine zeL ?_
 have hq:RqAt w0 X b tb bp (reqF c g o later false hd) (reqC bp (.int .i64 g::.int .i64 o.kind::.int .i64 c.id::.int .i64 (c.seq+1)::.int .i64 o.txn::.int .i64 o.age::.int .i64 o.epoch::.int .i64 o.lo::.int .i64 o.hi::.int .i64 o.block::.int .i64 o.snap::.int .i64 o.value::.int .i64 o.src::.int .i64 o.dst::.slice a1 o.parts.length c1::.slice a2 o.reads.length c2::.slice a3 o.writes.length c3::.slice a4 o.data.length c4::.int .i64 (c.clock+later)::.int .i64 (-1)::.bool false::.func (.func kf) #[] cpf::[])) :=
  ⟨a1,c1,a2,c2,a3,c3,a4,c4,_,rfl,q1,q2,q3,q4,hh⟩
 have hP:Parts w0 X b (askF c g o later false hd) ⟨vmem,vr0,vsets,vmr,vg,ve,vd,.slice a5 (ps++[PRq.mk bp]).length c5,vop,vow,vw,vco,vou,van⟩ tb (ps++[PRq.mk bp]) hG hE hD _ hT hK hO :=
  Parts.mk P.mem P.rngs0 P.sets P.mr P.guess P.ended P.dbts (ReqsAt.intro ho5 (RqsAt.append r4 hq)) P.opn P.own P.txn P.waits P.coord P.out P.ansd
 exact ret_cli [_] ⟨rfl,trivial⟩ hP (by exact rfl) ⟨bp,_,rfl,⟨_,ps,hG,hE,hD,_,hT,hK,hO,hP,rfl⟩,rfl⟩
theorem saying_spec (hS:CliT w0 X b tb c S) (a:Ans) (ad:Option Addr) (cp:Nat) (ha:RdL w0 X (.slice ad a.data.length cp) a.data) :
  Spec Tryz.prog w0 139 [pB b,.agg [.int .i64 a.code,.int .i64 a.txn,.slice ad a.data.length cp].toArray] (X+S) (fun r h'=>Now w0 X b tb (sayF c a) h'):=by
 obtain ⟨⟨vmem,vr0,vsets,vmr,vg,ve,vd,vrq,vop,vow,vw,vco,vou,van⟩,ps,hG,hE,hD,hR,hT,hK,hO,P,rfl⟩:=hS
 refine zN Tryz.func139 M Tryz.ntmps139 Tryz.results139 M fun fr=>?_
 repeat (first|refine zF ?_|refine zB ?_|refine zE ?_|refine zK M M M ?_|refine zY M M M M M ?_|refine L_st M M M (c':=(_::_::_::_::_::_::_::_::_::_::_::_::_::_::_::_::_::_::_::_::_::_::_::_::_::_::_::_::_::_::_::_::_::_::_::_::_::_::[])) M M M M ?_|refine L_ldA M (vs:=[_,_,_]) M M M M M ?_|refine L_stA M (vs:=[_,_,_]) M M M M (c':=(_::_::_::_::_::_::_::_::_::_::_::_::_::_::_::_::_::_::_::_::_::_::_::_::_::_::_::_::_::_::_::_::_::_::_::_::_::_::[])) M M ?_|refine L_box M (c:=[_,_,_]) M M M (fun _=>?_))
 have hP:Parts w0 X b (sayF c a) ⟨vmem,vr0,vsets,vmr,vg,ve,vd,vrq,vop,.pointer none,.nilFunc,vco,vou,.slice ad a.data.length cp⟩ tb ps hG hE hD hR hT hK hO :=
  ⟨P.mem,P.rngs0,P.sets,P.mr,P.guess,P.ended,P.dbts,P.reqs,P.opn,rfl,P.txn.imp id (fun h=>⟨h.1,rfl,h.2.2⟩),rfl,P.coord,P.out,⟨ad,cp,rfl,ha⟩⟩
 exact end_cli [] trivial hP (by exact rfl) hP.now
theorem coding_spec (hS:CliT w0 X b tb c S) (e:Int) :
  Spec Tryz.prog w0 126 [pB b,.int .i64 e] (X+S) (fun r h'=>Now w0 X b tb (codeF c e) h'):=by
 refine zN Tryz.func126 M Tryz.ntmps126 Tryz.results126 M fun fr=>?_
 repeat (first|refine zB ?_|refine zK M M M ?_|refine L_build (vs:=[_]) (cells:=[_,_,_]) M M M M ?_)
 refine zX M M (zQ M M M) (saying_spec w0 X b tb c S hS ⟨e,0,[]⟩ none 0 (RdL.nil _ _ _)) ?_
 rintro _ _ h
 repeat (refine zE ?_)
 exact ⟨[],_,_,trivial,h,yJ.out⟩
end
end Sl
end Go.Proofs.YtfahijncpmlhjaaGreat
