/-
  What shardBytes.proved hangs on, part 2 of 8: LkD, LkE, ShB, ShC, ShD, ShE, ShF, ShG, ShH, ShI, ShJ, ShK.
-/
import Derived.Test.YtpkealohodeifaaGreatBy1
import Derived.Laws.Cover3
set_option linter.unusedVariables false
set_option linter.unusedSimpArgs false
namespace Go.Proofs.YtpkealohodeifaaGreat
open Go Go.RowKit
namespace Sl
set_option maxHeartbeats 2000000
attribute [local irreducible] Hold HoldL HoldW
def locksAt (l:List Lk) (v:Value) (h:Hp):Prop:=isRow 94 4 (encL l) v h
theorem clone20_spec (w0:World) (X:Hp) (v:Value) (l:List Lk) (hv:RdRow w0 X 4 v (encL l)) (hl:l.length≤1000000000) :
  Spec Tryz.prog w0 261 [v] X (fun r h'=>∃ h,locksAt l r h∧X+h=h'):=by
 obtain ⟨a,c,rfl,ha⟩:=id hv
 rw [encL_length] at *
 refine zN Tryz.func261 G Tryz.ntmps261 Tryz.results261 G fun fr=>?_
 repeat (first|refine zF ?_|refine zB ?_|refine zE ?_|refine zK G G G ?_)
 refine L_bool G G (pv_slice_isnil G G) (fun h1=>?_) (fun h1=>?_)
 ·have hl:l=[]:=by
   cases l with
   | nil=>rfl
   | cons x l =>
    obtain ⟨b,off,rfl,_⟩:=ha.2 0 _ (encL_at (k:=0) (by simp))
    simp at h1
  subst hl
  repeat (first|refine zF ?_|refine zB ?_|refine zE ?_|refine zK G G G ?_|refine zM ?_|refine zJ G ?_)
  exact ⟨[_],X,_,⟨rfl,trivial⟩,⟨0,isRow_empty _ _ none,yB _⟩,yK.out⟩
 ·repeat (first|refine zF ?_|refine zB ?_|refine zE ?_|refine zP ?_|refine zI G ?_)
  refine L_eff G G (ev_buildSlice (vs:=[]) (cells:=[]) G G G G) ?_
  rintro _ _ ⟨b0,rfl,rfl⟩
  repeat (refine zK G G G ?_)
  refine L_eff G G (ev_append (xs:=[]) (h:=0) G G (isRow_empty _ _ _) (hv.frame) (encL_one l) G G G (by simp [encL_length]; omega)) ?_
  rintro v' _ ⟨h',hr',rfl⟩
  repeat (first|refine zE ?_|refine zK G G G ?_|refine zM ?_)
  exact ⟨[_],X+h',_,⟨rfl,trivial⟩,⟨h',hr',rfl⟩,yK.out⟩
def withoutL (l:List Lk) (ts:List Int):List Lk:=l.filter fun k=>!decide (k.txn∈ts)
theorem without_spec (w0:World) (X:Hp) (v u:Value) (l:List Lk) (ts:List Int) (hv:RdRow w0 X 4 v (encL l)) (hu:RdRow w0 X 1 u (enc1 ts)) (hl:l.length≤1000000000) (ht:ts.length≤1000000000) :
  Spec Tryz.prog w0 256 [v,u] X (fun r h'=>∃ h,locksAt (withoutL l ts) r h∧X+h=h'):=by
 obtain ⟨a,c,rfl,ha⟩:=id hv
 obtain ⟨a2,c2,rfl⟩:=hu.shape
 rw [encL_length] at *
 rw [enc1_length] at *
 refine zN Tryz.func256 G Tryz.ntmps256 Tryz.results256 G fun fr=>?_
 repeat (first|refine zF ?_|refine zR ?_|refine zB ?_|refine zE ?_|refine zK G G G ?_|refine L_len G G G ?_)
 refine hold_loop (fun m g L=>∃ (k:Nat) (v:Value) (h R:Hp),k≤l.length∧m=l.length - k∧g=[(1,.slice a2 ts.length c2),(5,v),(8,.slice a l.length c),(9,.int .i64 l.length),(10,.int .i64 k)]∧locksAt (withoutL (l.take k) ts) v h∧L=X+h+fr+R) _ _
  ⟨0,.slice none 0 0,0,0,by omega,rfl,rfl,isRow_empty _ _ _,by simp only [yB]⟩ (by repeat (first|exact zT _|refine zO G ?_)) ?_
 rintro m g L ⟨k,v,h,R,hk,rfl,rfl,hr,rfl⟩
 repeat (first|refine zF ?_|refine zB ?_)
 refine yG G G (pv_lss G G) (fun h2=>?_) (fun h2=>?_)
 ·have hx:k<l.length:=by omega
  obtain ⟨b2,o2,rfl,hc2⟩:=ha.2 k _ (encL_at hx)
  repeat (first|refine zF ?_|refine zR ?_|refine zB ?_|refine zE ?_|refine zP ?_|refine zJ G ?_)
  refine yH G G (pv_indexAddr G G hx) ?_
  refine L_load G G (yF G) (loads_aggR G [_,_,_,_] rfl (fun j u hj=>(hc2 j u hj).frame)) ?_
  refine L_alloc (c:=[_,_,_,_]) G G G (fun b3=>?_)
  repeat (first|refine zF ?_|refine zB ?_|refine zE ?_|refine zK G G G ?_|refine zZ G G G G G ?_|refine L_ld G G G G G ?_|refine L_stA G (vs:=[_,_,_,_]) G G G G (c':=[_,_,_,_]) G G ?_)
  refine zY G G (zQ G G G) (containsI_spec w0 X _ ts l[k].txn hu ht) ?_
  rintro _ _ ⟨rfl,rfl⟩
  have htk:withoutL (l.take (k+1)) ts=withoutL (l.take k) ts++(if l[k].txn∈ts then [] else [l[k]]):=by
   rw [List.take_succ_eq_append_getElem hx]
   unfold withoutL
   rw [List.filter_append]
   congr 1
   by_cases hm:l[k].txn∈ts<;>simp [hm]
  by_cases hm:l[k].txn∈ts
  ·rw [decide_eq_true hm]
   rw [if_pos hm,List.append_nil] at htk
   repeat (first|refine zB ?_|refine zE ?_|refine zK G G G ?_|refine zP ?_|refine zI G ?_|refine L_add G G (by omega) (by omega) G G ?_)
   exact ⟨l.length - (k+1),_,by omega,(by repeat (first|exact zT _|refine zO G ?_)),k+1,v,h,_,by omega,rfl,rfl,by rw [htk]; exact hr,yK.out⟩
  ·rw [decide_eq_false hm]
   rw [if_neg hm] at htk
   repeat (first|refine zB ?_|refine zE ?_|refine zK G G G ?_|refine zJ G ?_|refine L_ldA G (vs:=[_,_,_,_]) G G G G G ?_)
   refine L_eff G G (ev_buildSlice (vs:=[_]) (cells:=[_,_,_,_]) G G G G) ?_
   rintro _ _ ⟨b4,rfl,rfl⟩
   refine L_eff G G (ev_append (xs:=encL (withoutL (l.take k) ts)) (h:=h) (ns:=encL [l[k]]) G G hr (rd_one G) (encL_one _) G G G (by have:=List.length_filter_le (fun k=>!decide (k.txn∈ts)) (l.take k); rw [List.length_take] at this; simp only [encL_length,withoutL]; simp; omega)) ?_
   rintro v' _ ⟨h',hr',rfl⟩
   repeat (first|refine zB ?_|refine zE ?_|refine zK G G G ?_|refine L_add G G (by omega) (by omega) G G ?_)
   rw [show encL (withoutL (l.take k) ts)++encL [l[k]]=encL (withoutL (l.take (k+1)) ts) by rw [htk]; simp only [encL,List.map_append]] at hr'
   exact ⟨l.length - (k+1),_,by omega,(by repeat (first|exact zT _|refine zO G ?_)),k+1,v',h',_,by omega,rfl,rfl,hr',yK.out⟩
 ·repeat (first|refine zF ?_|refine yD ?_|refine zB ?_|refine zE ?_|refine zK G G G ?_|refine zM ?_|refine zI G ?_)
  rw [List.take_of_length_le (by omega)] at hr
  exact ⟨[_],X+h,_,⟨rfl,trivial⟩,⟨h,hr,rfl⟩,yK.out⟩
def sameSpot (k x:Lk):Bool:=decide (x.block=k.block∧x.txn=k.txn)
def behindL (k x:Lk):Bool:=decide (k.block<x.block∨(x.block=k.block∧k.txn<x.txn))
def boxL (b:Nat) (k:Lk):Hp:=pt b (.cells [.int .i64 k.block,.int .i64 k.txn,.int .i64 k.age,.bool k.write].toArray 94 (0,0))
theorem laid1_spec (w0:World) (x k:Lk) (b:Nat):Spec Tryz.prog w0 278 [aggL x,.pointer (some ⟨b,0,none⟩)] (boxL b k) (fun r h'=>r=.bool (sameSpot k x)∧boxL b k=h'):=by
 have hs1:=spotOf_spec w0 x
 have hs2:=spotOf_spec w0 k
 unfold aggL at hs1 hs2 ⊢
 unfold boxL
 refine zN Tryz.func278 G Tryz.ntmps278 Tryz.results278 G fun fr=>?_
 repeat (first|refine zF ?_|refine zB ?_)
 refine L_box G (c:=[_,_,_,_]) G G G (fun b1=>?_)
 repeat (first|refine zF ?_|refine zE ?_|refine zK G G G ?_)
 refine yC [1,3] [0,2,1,3,4,5] (by kernel_rfl) G (by kernel_rfl) (by kernel_rfl) ?_
 repeat (refine W_load G G G G (yF G) (zL (vs:=[_,_,_,_]) G G G) ?_)
 refine W_call G G G G (zQ G G G) hs1 (Kept.all _) ?_
 rintro _ _ ⟨rfl,rfl⟩
 refine ⟨(by repeat (first|exact trivial|exact zG G (zS G)|exact zL G G G|refine ⟨?_,?_⟩)),?_⟩
 refine W_call G G G G (zQ G G G) hs2 (Kept.all _) ?_
 rintro _ _ ⟨rfl,rfl⟩
 refine ⟨(by repeat (first|exact trivial|exact zG G (zS G)|exact zL G G G|refine ⟨?_,?_⟩)),?_⟩
 refine yE G G G G (pv_eql_struct (r:=(decide (x.block=k.block)&&(decide (x.txn=k.txn)&&true))) G G (by kernel_rfl) (by kernel_rfl) (by kernel_rfl)) ?_
 repeat (first|refine yJ ?_|refine yI G G G G G ?_)
 repeat (refine zM ?_)
 exact ⟨[_],_,_,⟨rfl,trivial⟩,⟨by show Value.bool _=Value.bool _; unfold sameSpot; rw [Bool.and_true,Bool.decide_and],rfl⟩,yK.out⟩
theorem laid2_spec (w0:World) (x k:Lk) (b:Nat):Spec Tryz.prog w0 279 [aggL x,.pointer (some ⟨b,0,none⟩)] (boxL b k) (fun r h'=>r=.bool (behindL k x)∧boxL b k=h'):=by
 unfold aggL boxL
 refine zN Tryz.func279 G Tryz.ntmps279 Tryz.results279 G fun fr=>?_
 repeat (first|refine zF ?_|refine zB ?_)
 refine L_box G (c:=[_,_,_,_]) G G G (fun b1=>?_)
 repeat (first|refine zF ?_|refine zB ?_|refine zE ?_|refine zK G G G ?_|refine zZ G G G G G ?_|refine L_ld G G G G G ?_)
 refine yG G G (pv_gtr G G) (fun h1=>?_) (fun h1=>?_)
 ·repeat (first|refine zE ?_|refine zK G G G ?_|refine L_skip G G ?_|refine zM ?_)
  exact ⟨[_],_,_,⟨rfl,trivial⟩,⟨bool_yes (.inl h1),rfl⟩,yK.out⟩
 ·repeat (first|refine zK G G G ?_|refine zZ G G G G G ?_|refine L_ld G G G G G ?_)
  refine yG G G (pv_eql G G) (fun h2=>?_) (fun h2=>?_)
  ·repeat (first|refine zK G G G ?_|refine zZ G G G G G ?_|refine L_ld G G G G G ?_)
   refine yG G G (pv_gtr G G) (fun h3=>?_) (fun h3=>?_)
   ·repeat (first|refine zE ?_|refine zK G G G ?_|refine zM ?_)
    exact ⟨[_],_,_,⟨rfl,trivial⟩,⟨bool_yes (.inr ⟨h2,h3⟩),rfl⟩,yK.out⟩
   ·repeat (first|refine zE ?_|refine zK G G G ?_|refine zM ?_)
    exact ⟨[_],_,_,⟨rfl,trivial⟩,⟨bool_no (fun h=>h.elim h1 (fun h=>h3 h.2)),rfl⟩,yK.out⟩
  ·repeat (first|refine zE ?_|refine zK G G G ?_|refine L_skip G G ?_|refine zM ?_)
   exact ⟨[_],_,_,⟨rfl,trivial⟩,⟨bool_no (fun h=>h.elim h1 (fun h=>h2 h.1)),rfl⟩,yK.out⟩
end Sl
end Go.Proofs.YtpkealohodeifaaGreat
namespace Go.Proofs.YtpkealohodeifaaGreat
open Go Go.RowKit
namespace Sl
set_option maxHeartbeats 4000000
set_option maxRecDepth 4000
attribute [local irreducible] Hold HoldL HoldW
theorem copy_at {A D E F:List Value} {o m:Nat} (hA:A.length=o) (hm:D.length=m):(A++D++E).take o++F++(A++D++E).drop (o+m)=A++F++E:=by
 subst hA; subst hm
 have e1:(A++D++E).take A.length=A:=by rw [List.append_assoc,List.take_left]
 have e2:(A++D++E).drop (A.length+D.length)=E:=by rw [← List.length_append,List.drop_left]
 rw [e1,e2]
theorem insert_spec (w0:World) (b cap bv i:Nat) (es:List (List Value)) (spare kc:List Value) (hi:i<es.length) (hes:∀ x∈es,x.length=4) (h1:∀ n∈es,∀ u∈n,u.oneCell'=true) (hcap:es.length≤cap) (hmax:cap≤maxLen) (hsp:spare.length=(cap - es.length)*4)
  (hk:kc.length=4) (hk1:∀ u∈kc,u.oneCell'=true) (hlim:es.length≤1000000) :
  Spec Tryz.prog w0 280 [.slice (some ⟨b,0,none⟩) es.length cap,.int .i64 (i:Int),.slice (some ⟨bv,0,none⟩) 1 1]
   (pt b (.cells (es.flatten++spare).toArray 94 (0,0))+pt bv (.cells kc.toArray 94 (0,0)))
   (fun r h'=>isRow 94 4 (es.take i++kc::es.drop i) r h'):=by
 refine zN Tryz.func280 G Tryz.ntmps280 Tryz.results280 G fun fr=>?_
 repeat (first|refine zF ?_|refine zB ?_|refine zE ?_|refine zK G G G ?_)
 refine yH G G (pv_slice_l (l:=i) G G (by omega)) ?_
 repeat (first|refine zF ?_|refine zB ?_|refine zE ?_|refine zK G G G ?_|refine L_len G G G ?_)
 refine L_no G G (pv_eql G G) (by decide) ?_
 repeat (first|refine zF ?_|refine zB ?_|refine zE ?_|refine zK G G G ?_|refine L_len G G G ?_|refine zP ?_|refine zI G ?_)
 refine L_no G G (pv_eql G G) (by omega) ?_
 repeat (first|refine zF ?_|refine zB ?_|refine zE ?_|refine zK G G G ?_|refine zP ?_|refine zI G ?_|refine L_add G G (by omega) (by omega) G G ?_)
 refine yH G G (pv_cap G) ?_
 have eflat:es.flatten=(es.take i).flatten++(es.drop i).flatten:=by rw [← List.flatten_append,List.take_append_drop]
 have lA:(es.take i).flatten.length=i*4:=by rw [length_flat (fun x hx=>hes x (List.mem_of_mem_take hx)),List.length_take,Nat.min_eq_left (by omega)]
 have lD:(es.drop i).flatten.length=(es.length - i)*4:=by rw [length_flat (fun x hx=>hes x (List.mem_of_mem_drop hx)),List.length_drop]
 have hkc1:∀ n∈[kc],∀ u∈n,u.oneCell'=true:=by intro n hn; rw [List.mem_singleton] at hn; subst hn; exact hk1
 have hall:∀ x∈es.take i++kc::es.drop i,x.length=4:=by
  intro x hx
  rcases List.mem_append.1 hx with hx|hx
  ·exact hes x (List.mem_of_mem_take hx)
  ·rcases List.mem_cons.1 hx with rfl|hx
   ·exact hk
   ·exact hes x (List.mem_of_mem_drop hx)
 have hlen:(es.take i++kc::es.drop i).length=es.length+1:=by simp; omega
 refine yG G G (pv_gtr G G) (fun hg=>?_) (fun hg=>?_)
 ·repeat (first|refine zF ?_|refine zB ?_|refine zE ?_|refine zK G G G ?_|refine zJ G ?_)
  refine yH G G (pv_slice_h (m:=i) G G (by omega)) ?_
  repeat (first|refine zK G G G ?_|refine L_add G G (by omega) (by omega) G G ?_|refine L_sub G G (by omega) (by omega) G G ?_)
  rw [show (es.length:Int)+((1:Nat):Int) - (i:Int)=((es.length+1 - i:Nat):Int) by omega]
  refine L_eff G G (ev_append_zeros (olds:=(es.take i).flatten) G G (by rw [eflat,List.append_assoc,← lA,List.take_left]) (by rw [List.length_append,eflat,List.length_append,lA]; omega) (by omega) G G (by omega) G (by omega)) ?_
  rintro _ _ ⟨b2,cap2,spare2,rfl,hc2,hmax2,hsp2,rfl⟩
  rw [show i+(es.length+1 - i)=es.length+1 by omega] at *
  obtain ⟨D1,D2,hD,l1,l2⟩:∃ D1 D2,(List.replicate (es.length+1 - i) (Value.cells (.agg #[.int .i64 0,.int .i64 0,.int .i64 0,.bool false])).toList).flatten=D1++D2∧D1.length=4∧D2.length=(es.length - i)*4 :=
   ⟨_,_,(List.take_append_drop 4 _).symm,by simp [Value.cells]; omega,by simp [Value.cells]; omega⟩
  rw [hD]
  repeat (first|refine zF ?_|refine zB ?_|refine zE ?_|refine zK G G G ?_)
  refine yH G G (pv_slice_l (l:=i) G G (by omega)) ?_
  rw [shiftA_some (b:=b2) (l:=i) (cap:=cap2) (by omega)]
  repeat (refine zK G G G ?_)
  refine L_eff G G (ev_copy (n:=1) G G (rd_one hk) (fun n hn=>hkc1 n (List.mem_of_mem_take hn)) (Nat.min_eq_left (by simp only [List.length_singleton]; omega)) (by omega) (by omega) (by simp only [List.length_append,lA,l1,l2]; omega)) ?_
  rintro _ _ ⟨rfl,rfl⟩
  have c1:((es.take i).flatten++(D1++D2)++spare2).take (0+i*4)++([kc].take 1).flatten++((es.take i).flatten++(D1++D2)++spare2).drop (0+i*4+1*4)=(es.take i).flatten++kc++D2++spare2:=by
   have:=copy_at (A:=(es.take i).flatten) (D:=D1) (E:=D2++spare2) (F:=kc) lA l1
   simpa [List.append_assoc] using this
  rw [c1]
  have hrd:RdRow w0 (pt b2 (.cells ((es.take i).flatten++kc++D2++spare2).toArray 94 (0,0))+(pt b (.cells (es.flatten++spare).toArray 94 (0,0))+pt bv (.cells kc.toArray 94 (0,0))+fr)) 4 (.slice (some ⟨b,0,none⟩) es.length cap) es:=rd_block hes
  have hrd2:=hrd.drop (l:=i) (by omega) hcap
  rw [shiftA_some (b:=b) (l:=i) (cap:=cap) (by omega)] at hrd2
  repeat (first|refine zF ?_|refine zE ?_)
  refine yC [8] [0,1,2,3,4,5,6,7,8] (by kernel_rfl) G (by kernel_rfl) (by kernel_rfl) ?_
  repeat (first|refine yI G G G G G ?_|refine yE G G G G (pv_add G G (by omega) (by omega)) ?_)
  refine yE G G G G (pv_slice_l (l:=i+1) G G (by omega)) ?_
  rw [shiftA_some (b:=b2) (l:=i+1) (cap:=cap2) (by omega)]
  repeat (refine yI G G G G G ?_)
  refine yE G G G G (pv_slice_l (l:=i) G G (by omega)) ?_
  rw [shiftA_some (b:=b) (l:=i) (cap:=cap) (by omega)]
  refine W_eff G G G G (ev_copy (n:=es.length - i) G G hrd2 (fun n hn=>h1 n (List.mem_of_mem_drop (List.mem_of_mem_take hn))) (by rw [List.length_drop]; exact Nat.min_eq_left (by omega)) (by omega) (by omega) (by simp only [List.length_append,lA,hk,l2]; omega)) (Kept.all _) ?_
  rintro _ _ ⟨rfl,rfl⟩
  refine ⟨trivial,?_⟩
  have c2:((es.take i).flatten++kc++D2++spare2).take (0+(i+1)*4)++((es.drop i).take (es.length - i)).flatten++((es.take i).flatten++kc++D2++spare2).drop (0+(i+1)*4+(es.length - i)*4)=(es.take i++kc::es.drop i).flatten++spare2:=by
   rw [show (es.drop i).take (es.length - i)=es.drop i from List.take_of_length_le (by rw [List.length_drop]; omega)]
   have:=copy_at (A:=(es.take i).flatten++kc) (D:=D2) (E:=spare2) (F:=(es.drop i).flatten) (o:=0+(i+1)*4) (by rw [List.length_append,lA,hk]; omega) l2
   rw [this,List.flatten_append,List.flatten_cons,List.append_assoc,List.append_assoc,List.append_assoc,List.append_assoc]
  rw [c2]
  repeat (refine yJ ?_)
  repeat (first|refine zF ?_|refine zB ?_|refine zE ?_|refine zK G G G ?_|refine zM ?_)
  have hrow:=isRow_block (E:=94) (b:=b2) (cap:=cap2) (spare:=spare2) hall (by rw [hlen]; omega) hmax2 (by rw [hlen]; exact hsp2)
  rw [hlen] at hrow
  exact ⟨[_],_,_,⟨rfl,trivial⟩,hrow,yK.out⟩
 ·repeat (first|refine zF ?_|refine zB ?_|refine zE ?_|refine zK G G G ?_|refine zP ?_|refine zI G ?_|refine L_add G G (by omega) (by omega) G G ?_)
  refine yH G G (pv_slice_h (m:=es.length+1) G G (by omega)) ?_
  repeat (first|refine zF ?_|refine zB ?_|refine zE ?_|refine zK G G G ?_|refine L_add G G (by omega) (by omega) G G ?_)
  obtain ⟨S1,S2,hS,l1,l2⟩:∃ S1 S2,spare=S1++S2∧S1.length=4∧S2.length=(cap - (es.length+1))*4 :=
   ⟨_,_,(List.take_append_drop 4 spare).symm,by rw [List.length_take,hsp]; omega,by rw [List.length_drop,hsp]; omega⟩
  subst hS
  refine yH G G (pv_slice_l (l:=i+1) G G (by omega)) ?_
  rw [shiftA_some (b:=b) (l:=i+1) (cap:=cap) (by omega)]
  refine L_eff G G (ev_overlaps (t:=27) (tR:=4) (c1:=kc) (c2:=es.flatten++(S1++S2)) (e1:=94) (e2:=94) Tryz.func297 (by kernel_rfl) (by kernel_rfl) (by kernel_rfl) (by kernel_rfl) G G (by simp only [List.length_append,l1]; omega)) ?_
  rintro _ _ ⟨rfl,rfl⟩
  repeat (first|refine zF ?_|refine zE ?_|refine zK G G G ?_|refine zJ G ?_)
  have hes':∀ x∈es++[S1],x.length=4:=by
   intro x hx
   rcases List.mem_append.1 hx with hx|hx
   ·exact hes x hx
   ·rw [List.mem_singleton] at hx; subst hx; exact l1
  have ecells:es.flatten++(S1++S2)=(es++[S1]).flatten++S2:=by simp
  rw [ecells]
  have hrd:RdRow w0 (pt b (.cells ((es++[S1]).flatten++S2).toArray 94 (0,0))+pt bv (.cells kc.toArray 94 (0,0))+fr) 4 (.slice (some ⟨b,0,none⟩) (es++[S1]).length cap) (es++[S1]):=rd_block hes'
  rw [show (es++[S1]).length=es.length+1 by simp] at hrd
  have hrd2:=hrd.drop (l:=i) (by omega) (by omega)
  rw [shiftA_some (b:=b) (l:=i) (cap:=cap) (by omega)] at hrd2
  have hd1:(es++[S1]).drop i=es.drop i++[S1]:=List.drop_append_of_le_length (by omega)
  rw [hd1] at hrd2
  have h1':∀ n∈(es.drop i++[S1]).take (es.length - i),∀ u∈n,u.oneCell'=true:=by
   rw [List.take_left' (by rw [List.length_drop])]
   exact fun n hn=>h1 n (List.mem_of_mem_drop hn)
  refine yC [8] [0,1,2,3,4,5,6,7,8] (by kernel_rfl) G (by kernel_rfl) (by kernel_rfl) ?_
  repeat (first|refine yI G G G G G ?_|refine yE G G G G (pv_add G G (by omega) (by omega)) ?_)
  refine yE G G G G (pv_slice_l (l:=i+1) G G (by omega)) ?_
  rw [shiftA_some (b:=b) (l:=i+1) (cap:=cap) (by omega)]
  repeat (refine yI G G G G G ?_)
  refine yE G G G G (pv_slice_l (l:=i) G G (by omega)) ?_
  rw [shiftA_some (b:=b) (l:=i) (cap:=cap) (by omega)]
  refine W_eff G G G G (ev_copy (n:=es.length - i) G G hrd2 h1' (by rw [List.length_append,List.length_drop,List.length_singleton]; show min _ _=_; omega) (by omega) (by omega) (by simp only [List.length_append,List.flatten_append,eflat,lA,lD,l1,l2,List.flatten_cons,List.flatten_nil,List.length_nil]; omega)) (Kept.all _) ?_
  rintro _ _ ⟨rfl,rfl⟩
  refine ⟨trivial,?_⟩
  have lA':(es.take (i+1)).flatten.length=0+(i+1)*4:=by rw [length_flat (fun x hx=>hes x (List.mem_of_mem_take hx)),List.length_take,Nat.min_eq_left (by omega)]; omega
  have lD':((es.drop (i+1)).flatten++S1).length=(es.length - i)*4:=by rw [List.length_append,length_flat (fun x hx=>hes x (List.mem_of_mem_drop hx)),List.length_drop,l1]; omega
  have lI:es[i].length=4:=hes _ (List.getElem_mem hi)
  have esp:(es.take (i+1)).flatten=(es.take i).flatten++es[i]:=by rw [List.take_succ_eq_append_getElem hi,List.flatten_append]; simp
  have c1:((es++[S1]).flatten++S2).take (0+(i+1)*4)++((es.drop i++[S1]).take (es.length - i)).flatten++((es++[S1]).flatten++S2).drop (0+(i+1)*4+(es.length - i)*4)=(es.take i).flatten++es[i]++((es.drop i).flatten++S2):=by
   have e0:(es++[S1]).flatten++S2=(es.take (i+1)).flatten++((es.drop (i+1)).flatten++S1)++S2:=by
    have e3:es.flatten=(es.take (i+1)).flatten++(es.drop (i+1)).flatten:=by rw [← List.flatten_append,List.take_append_drop]
    rw [List.flatten_append,e3]; simp [List.append_assoc]
   rw [e0,List.take_left' (by rw [List.length_drop]:(es.drop i).length=es.length - i),copy_at lA' lD',esp,List.append_assoc]
  rw [c1]
  repeat (refine yJ ?_)
  repeat (first|refine zF ?_|refine zB ?_|refine zK G G G ?_)
  refine yH G G (pv_slice_l (l:=i) G G (by omega)) ?_
  rw [shiftA_some (b:=b) (l:=i) (cap:=cap) (by omega)]
  repeat (refine zK G G G ?_)
  refine L_eff G G (ev_copy (n:=1) G G (rd_one hk) (fun n hn=>hkc1 n (List.mem_of_mem_take hn)) (Nat.min_eq_left (by simp only [List.length_singleton]; omega)) (by omega) (by omega) (by simp only [List.length_append,lA,lI]; omega)) ?_
  rintro _ _ ⟨rfl,rfl⟩
  have c2:((es.take i).flatten++es[i]++((es.drop i).flatten++S2)).take (0+i*4)++([kc].take 1).flatten++((es.take i).flatten++es[i]++((es.drop i).flatten++S2)).drop (0+i*4+1*4)=(es.take i++kc::es.drop i).flatten++S2:=by
   have:=copy_at (A:=(es.take i).flatten) (D:=es[i]) (E:=(es.drop i).flatten++S2) (F:=kc) (o:=0+i*4) (m:=1*4) (by rw [lA]; omega) (by rw [lI])
   rw [show ([kc].take 1).flatten=kc by simp,this,List.flatten_append,List.flatten_cons,List.append_assoc,List.append_assoc,List.append_assoc]
  rw [c2]
  repeat (first|refine zF ?_|refine zB ?_|refine zE ?_|refine zK G G G ?_|refine zM ?_)
  have hrow:=isRow_block (E:=94) (b:=b) (cap:=cap) (spare:=S2) hall (by rw [hlen]; omega) hmax (by rw [hlen]; exact l2)
  rw [hlen] at hrow
  exact ⟨[_],_,_,⟨rfl,trivial⟩,hrow,yK.out⟩
def Laid (l:List Lk) (k:Lk) (r:List Lk):Prop :=
 (∃ (n:Nat) (h:n<l.length),sameSpot k l[n]=true∧(∀ x∈l.take n,sameSpot k x=false)∧r=l.set n { l[n] with write:=true }) ∨
 ((∀ x∈l,sameSpot k x=false)∧((∃ (n:Nat) (h:n<l.length),behindL k l[n]=true∧(∀ x∈l.take n,behindL k x=false)∧r=l.take n++k::l.drop n)∨((∀ x∈l,behindL k x=false)∧r=l++[k])))
theorem encL_set (l:List Lk) (n:Nat) (k:Lk):(encL l).set n (cellsL k)=encL (l.set n k):=by simp [encL,List.map_set]
theorem laid_spec (w0:World) (l:List Lk) (k:Lk) (v:Value) (hp:Hp) (hr:locksAt l v hp) (hl:l.length≤1000000) :
  Spec Tryz.prog w0 265 [v,aggL k] hp (fun r h'=>∃ r',locksAt r' r h'∧Laid l k r'):=by
 obtain ⟨a,c,rfl⟩:=hr.shape
 unfold aggL
 rw [encL_length] at *
 refine zN Tryz.func265 G Tryz.ntmps265 Tryz.results265 G fun fr=>?_
 repeat (first|refine zF ?_|refine zB ?_)
 refine L_box G (c:=[_,_,_,_]) G G G (fun b1=>?_)
 repeat (first|refine zF ?_|refine zB ?_|refine zE ?_|refine zK G G G ?_)
 refine yH G G (pv_closure (cap:=[_]) G) ?_
 have hrd:RdRow w0 (hp+boxL b1 k) 4 (.slice a l.length c) (encL l):=hr.rd (R:=boxL b1 k)
 have hq1:=indexFunc_spec w0 (hp+boxL b1 k) _ l 278 [.pointer (some ⟨b1,0,none⟩)] (sameSpot k) hrd (by omega) (fun x hx=>Spec.frameL (R:=hp) (hadd_comm _ _) (laid1_spec w0 x k b1))
 have hq2:=indexFunc_spec w0 (hp+boxL b1 k) _ l 279 [.pointer (some ⟨b1,0,none⟩)] (behindL k) hrd (by omega) (fun x hx=>Spec.frameL (R:=hp) (hadd_comm _ _) (laid2_spec w0 x k b1))
 unfold boxL at hq1 hq2
 refine zY G G (zQ G G G) hq1 ?_
 rintro _ _ ⟨i,rfl,hf1,rfl⟩
 repeat (first|refine zF ?_|refine zB ?_|refine zE ?_|refine zK G G G ?_)
 rcases hf1 with ⟨n,hn,rfl,hpn,hpre⟩|⟨rfl,hno⟩
 ·refine L_yes G G (pv_geq G G) (by omega) ?_
  obtain ⟨gb,cap,spare,e1,rfl,hes,hcap,hmax,hsp⟩:=hr.nonempty (by intro e; rw [← List.length_eq_zero_iff,encL_length] at e; omega)
  simp only [Value.slice.injEq] at e1
  obtain ⟨rfl,-,rfl⟩:=e1
  repeat (first|refine zF ?_|refine zB ?_|refine zE ?_|refine zK G G G ?_|refine zJ G ?_)
  refine yH G G (pv_indexAddr G G hn) ?_
  repeat (refine zZ G G G G G ?_)
  refine L_st G G (row_get0 (j:=3) hes spare (encL_at hn) G) (row_set0 (j:=3) hes spare _ (encL_at hn) (by omega)) G G G ?_
  repeat (first|refine zF ?_|refine zB ?_|refine zE ?_|refine zK G G G ?_|refine zM ?_)
  have hset:(encL l).set n ([Value.int .i64 l[n].block,.int .i64 l[n].txn,.int .i64 l[n].age,.bool l[n].write].set 3 (.bool true))=encL (l.set n { l[n] with write:=true }):=encL_set l n { l[n] with write:=true }
  have hrow:locksAt (l.set n { l[n] with write:=true }) (.slice (some ⟨gb,0,none⟩) l.length c) (pt gb (.cells ((encL (l.set n { l[n] with write:=true })).flatten++spare).toArray 94 (0,0))):=by
   have hln:(encL (l.set n { l[n] with write:=true })).length=l.length:=by simp [encL_length]
   have:=isRow_block (E:=94) (b:=gb) (cap:=c) (spare:=spare) (encL_len4 (l.set n { l[n] with write:=true })) (by rw [hln]; rw [encL_length] at hcap; exact hcap) hmax (by rw [hln]; rw [encL_length] at hsp; exact hsp)
   rwa [hln] at this
  rw [hset]
  exact ⟨[_],_,_,⟨rfl,trivial⟩,⟨_,hrow,.inl ⟨n,hn,hpn,hpre,rfl⟩⟩,yK.out⟩
 ·refine L_no G G (pv_geq G G) (by decide) ?_
  repeat (first|refine zF ?_|refine zB ?_|refine zE ?_|refine zK G G G ?_|refine zP ?_|refine zI G ?_)
  refine yH G G (pv_closure (cap:=[_]) G) ?_
  refine zY G G (zQ G G G) hq2 ?_
  rintro _ _ ⟨i,rfl,hf2,rfl⟩
  repeat (first|refine zF ?_|refine zB ?_|refine zE ?_|refine zK G G G ?_)
  rcases hf2 with ⟨n,hn,rfl,hpn,hpre⟩|⟨rfl,hnb⟩
  ·refine L_no G G (pv_lss G G) (by omega) ?_
   obtain ⟨gb,cap,spare,e1,rfl,hes,hcap,hmax,hsp⟩:=hr.nonempty (by intro e; rw [← List.length_eq_zero_iff,encL_length] at e; omega)
   simp only [Value.slice.injEq] at e1
   obtain ⟨rfl,-,rfl⟩:=e1
   repeat (first|refine zF ?_|refine zB ?_|refine zE ?_|refine zK G G G ?_|refine zP ?_|refine zI G ?_|refine L_ldA G (vs:=[_,_,_,_]) G G G G G ?_)
   refine L_eff G G (ev_buildSlice (vs:=[_]) (cells:=[_,_,_,_]) G G G G) ?_
   rintro _ _ ⟨b4,rfl,rfl⟩
   have hins:=insert_spec w0 gb c b4 n (encL l) spare (cellsL k) (by rw [encL_length]; exact hn) hes (encL_one l) hcap hmax hsp G (fun u hu=>encL_one [k] _ (List.mem_singleton.2 G) u hu) (by rw [encL_length]; omega)
   rw [encL_length] at hins
   unfold cellsL at hins
   refine zY G G (zQ G G G) hins ?_
   rintro v' h' hrow
   repeat (first|refine zE ?_|refine zK G G G ?_|refine zM ?_)
   have henc:(encL l).take n++cellsL k::(encL l).drop n=encL (l.take n++k::l.drop n):=by simp [encL,List.map_take,List.map_drop]
   have hrow':locksAt (l.take n++k::l.drop n) v' h':=by unfold locksAt; rw [← henc]; exact hrow
   exact ⟨[_],_,_,⟨rfl,trivial⟩,⟨_,hrow',.inr ⟨hno,.inl ⟨n,hn,hpn,hpre,rfl⟩⟩⟩,yK.out⟩
  ·refine L_yes G G (pv_lss G G) (by decide) ?_
   repeat (first|refine zF ?_|refine zB ?_|refine zE ?_|refine zK G G G ?_|refine zJ G ?_|refine L_ldA G (vs:=[_,_,_,_]) G G G G G ?_)
   refine L_eff G G (ev_buildSlice (vs:=[_]) (cells:=[_,_,_,_]) G G G G) ?_
   rintro _ _ ⟨b4,rfl,rfl⟩
   refine L_eff G G (ev_append (xs:=encL l) (h:=hp) (ns:=encL [k]) G G hr (rd_one G) (encL_one _) G G G (by simp [encL_length]; omega)) ?_
   rintro v' _ ⟨h',hr',rfl⟩
   repeat (first|refine zE ?_|refine zK G G G ?_|refine zM ?_)
   rw [show encL l++encL [k]=encL (l++[k]) by simp only [encL,List.map_append]] at hr'
   exact ⟨[_],_,_,⟨rfl,trivial⟩,⟨_,hr',.inr ⟨hno,.inr ⟨hnb,rfl⟩⟩⟩,yK.out⟩
end Sl
end Go.Proofs.YtpkealohodeifaaGreat
namespace Go.Proofs.YtpkealohodeifaaGreat
open Go Go.RowKit
namespace Sl
set_option maxHeartbeats 4000000
set_option maxRecDepth 4000
attribute [local irreducible] Hold HoldL HoldW
theorem indexFuncSes_spec (w0:World) (X:Hp) (v:Value) (xs:List Ses) (k0:Nat) [hf:Fun Tryz.prog k0] (caps:List Value) (p:Ses→Bool) (hv:RdL w0 X v xs) (hl:xs.length≤1000000000)
  (hp:∀ Y x e,x∈xs→Rep.rd w0 Y x e→Spec Tryz.prog w0 k0 (.agg e.toArray::caps) X (fun r h'=>r=.bool (p x)∧X=h')) :
  Spec Tryz.prog w0 165 [v,.func (.func k0) #[] caps.toArray] X (fun r h'=>r=.int .i64 (idxF p xs)∧X=h'):=by
 obtain ⟨a,c,rfl⟩:=hv.shape
 refine zN Tryz.func165 G Tryz.ntmps165 Tryz.results165 G fun fr=>?_
 repeat (first|refine zF ?_|refine zR ?_|refine zB ?_|refine zE ?_|refine zK G G G ?_|refine L_len G G G ?_)
 refine hold_count xs.length (fun k g L=>∃ R:Hp,g=[(0,.slice a xs.length c),(1,.func (.func k0) #[] caps.toArray),(7,.int .i64 xs.length),(8,.int .i64 k)]∧L=X+fr+R∧∀ x∈xs.take k,p x=false) _ ⟨0,rfl,(yB _).symm,by simp⟩ (by repeat (first|exact zT _|refine zO G ?_)) ?_
 rintro k g L hk ⟨R,rfl,rfl,hpre⟩
 repeat (first|refine zF ?_|refine zB ?_)
 refine yG G G (pv_lss G G) (fun h2=>?_) (fun h2=>?_)
 ·have hx:k<xs.length:=by omega
  obtain ⟨b2,o2,rfl,e,hr,hat⟩:=hv.at hx
  repeat (first|refine zF ?_|refine zR ?_|refine zB ?_|refine zE ?_|refine zK G G G ?_|refine zP ?_|refine zJ G ?_|refine L_idx G G (by omega) G G ?_)
  refine L_load G G (yF G) (zH G hat (beq_iff_eq.2 (Rep.len hr))) ?_
  refine zY G G (zQ G G (by simp<;>rfl)) (hp X xs[k] e (List.getElem_mem hx) hr) ?_
  rintro _ _ ⟨rfl,rfl⟩
  cases h3:p xs[k]
  ·repeat (first|refine zB ?_|refine zE ?_|refine zK G G G ?_|refine zP ?_|refine zI G ?_|refine L_add G G (by omega) (by omega) G G ?_)
   exact ⟨hx,_,(by repeat (first|exact zT _|refine zO G ?_)),_,rfl,yK.out,all_take_succ hx hpre h3⟩
  ·repeat (first|refine zF ?_|refine zB ?_|refine zE ?_|refine zK G G G ?_|refine zM ?_|refine zJ G ?_)
   exact ⟨[_],X,_,⟨rfl,trivial⟩,⟨by rw [idxF_hit hx h3 hpre]; rfl,rfl⟩,yK.out⟩
 ·repeat (first|refine zF ?_|refine yD ?_|refine zB ?_|refine zE ?_|refine zK G G G ?_|refine zM ?_|refine zI G ?_)
  rw [List.take_of_length_le (by omega)] at hpre
  exact ⟨[_],X,_,⟨rfl,trivial⟩,⟨by rw [idxF_miss hpre]; rfl,rfl⟩,yK.out⟩
theorem indexFuncWr_spec (w0:World) (X:Hp) (v:Value) (xs:List Wr) (k0:Nat) [hf:Fun Tryz.prog k0] (caps:List Value) (p:Wr→Bool) (hv:RdL w0 X v xs) (hl:xs.length≤1000000000)
  (hp:∀ Y x e,x∈xs→Rep.rd w0 Y x e→Spec Tryz.prog w0 k0 (.agg e.toArray::caps) X (fun r h'=>r=.bool (p x)∧X=h')) :
  Spec Tryz.prog w0 174 [v,.func (.func k0) #[] caps.toArray] X (fun r h'=>r=.int .i64 (idxF p xs)∧X=h'):=by
 obtain ⟨a,c,rfl⟩:=hv.shape
 refine zN Tryz.func174 G Tryz.ntmps174 Tryz.results174 G fun fr=>?_
 repeat (first|refine zF ?_|refine zR ?_|refine zB ?_|refine zE ?_|refine zK G G G ?_|refine L_len G G G ?_)
 refine hold_count xs.length (fun k g L=>∃ R:Hp,g=[(0,.slice a xs.length c),(1,.func (.func k0) #[] caps.toArray),(7,.int .i64 xs.length),(8,.int .i64 k)]∧L=X+fr+R∧∀ x∈xs.take k,p x=false) _ ⟨0,rfl,(yB _).symm,by simp⟩ (by repeat (first|exact zT _|refine zO G ?_)) ?_
 rintro k g L hk ⟨R,rfl,rfl,hpre⟩
 repeat (first|refine zF ?_|refine zB ?_)
 refine yG G G (pv_lss G G) (fun h2=>?_) (fun h2=>?_)
 ·have hx:k<xs.length:=by omega
  obtain ⟨b2,o2,rfl,e,hr,hat⟩:=hv.at hx
  repeat (first|refine zF ?_|refine zR ?_|refine zB ?_|refine zE ?_|refine zK G G G ?_|refine zP ?_|refine zJ G ?_|refine L_idx G G (by omega) G G ?_)
  refine L_load G G (yF G) (zH G hat (beq_iff_eq.2 (Rep.len hr))) ?_
  refine zY G G (zQ G G (by simp<;>rfl)) (hp X xs[k] e (List.getElem_mem hx) hr) ?_
  rintro _ _ ⟨rfl,rfl⟩
  cases h3:p xs[k]
  ·repeat (first|refine zB ?_|refine zE ?_|refine zK G G G ?_|refine zP ?_|refine zI G ?_|refine L_add G G (by omega) (by omega) G G ?_)
   exact ⟨hx,_,(by repeat (first|exact zT _|refine zO G ?_)),_,rfl,yK.out,all_take_succ hx hpre h3⟩
  ·repeat (first|refine zF ?_|refine zB ?_|refine zE ?_|refine zK G G G ?_|refine zM ?_|refine zJ G ?_)
   exact ⟨[_],X,_,⟨rfl,trivial⟩,⟨by rw [idxF_hit hx h3 hpre]; rfl,rfl⟩,yK.out⟩
 ·repeat (first|refine zF ?_|refine yD ?_|refine zB ?_|refine zE ?_|refine zK G G G ?_|refine zM ?_|refine zI G ?_)
  rw [List.take_of_length_le (by omega)] at hpre
  exact ⟨[_],X,_,⟨rfl,trivial⟩,⟨by rw [idxF_miss hpre]; rfl,rfl⟩,yK.out⟩
theorem indexFuncPrp_spec (w0:World) (X:Hp) (v:Value) (xs:List Prp) (k0:Nat) [hf:Fun Tryz.prog k0] (caps:List Value) (p:Prp→Bool) (hv:RdL w0 X v xs) (hl:xs.length≤1000000000)
  (hp:∀ Y x e,x∈xs→Rep.rd w0 Y x e→Spec Tryz.prog w0 k0 (.agg e.toArray::caps) X (fun r h'=>r=.bool (p x)∧X=h')) :
  Spec Tryz.prog w0 180 [v,.func (.func k0) #[] caps.toArray] X (fun r h'=>r=.int .i64 (idxF p xs)∧X=h'):=by
 obtain ⟨a,c,rfl⟩:=hv.shape
 refine zN Tryz.func180 G Tryz.ntmps180 Tryz.results180 G fun fr=>?_
 repeat (first|refine zF ?_|refine zR ?_|refine zB ?_|refine zE ?_|refine zK G G G ?_|refine L_len G G G ?_)
 refine hold_count xs.length (fun k g L=>∃ R:Hp,g=[(0,.slice a xs.length c),(1,.func (.func k0) #[] caps.toArray),(7,.int .i64 xs.length),(8,.int .i64 k)]∧L=X+fr+R∧∀ x∈xs.take k,p x=false) _ ⟨0,rfl,(yB _).symm,by simp⟩ (by repeat (first|exact zT _|refine zO G ?_)) ?_
 rintro k g L hk ⟨R,rfl,rfl,hpre⟩
 repeat (first|refine zF ?_|refine zB ?_)
 refine yG G G (pv_lss G G) (fun h2=>?_) (fun h2=>?_)
 ·have hx:k<xs.length:=by omega
  obtain ⟨b2,o2,rfl,e,hr,hat⟩:=hv.at hx
  repeat (first|refine zF ?_|refine zR ?_|refine zB ?_|refine zE ?_|refine zK G G G ?_|refine zP ?_|refine zJ G ?_|refine L_idx G G (by omega) G G ?_)
  refine L_load G G (yF G) (zH G hat (beq_iff_eq.2 (Rep.len hr))) ?_
  refine zY G G (zQ G G (by simp<;>rfl)) (hp X xs[k] e (List.getElem_mem hx) hr) ?_
  rintro _ _ ⟨rfl,rfl⟩
  cases h3:p xs[k]
  ·repeat (first|refine zB ?_|refine zE ?_|refine zK G G G ?_|refine zP ?_|refine zI G ?_|refine L_add G G (by omega) (by omega) G G ?_)
   exact ⟨hx,_,(by repeat (first|exact zT _|refine zO G ?_)),_,rfl,yK.out,all_take_succ hx hpre h3⟩
  ·repeat (first|refine zF ?_|refine zB ?_|refine zE ?_|refine zK G G G ?_|refine zM ?_|refine zJ G ?_)
   exact ⟨[_],X,_,⟨rfl,trivial⟩,⟨by rw [idxF_hit hx h3 hpre]; rfl,rfl⟩,yK.out⟩
 ·repeat (first|refine zF ?_|refine yD ?_|refine zB ?_|refine zE ?_|refine zK G G G ?_|refine zM ?_|refine zI G ?_)
  rw [List.take_of_length_le (by omega)] at hpre
  exact ⟨[_],X,_,⟨rfl,trivial⟩,⟨by rw [idxF_miss hpre]; rfl,rfl⟩,yK.out⟩
theorem indexFuncOut_spec (w0:World) (X:Hp) (v:Value) (xs:List Outp) (k0:Nat) [hf:Fun Tryz.prog k0] (caps:List Value) (p:Outp→Bool) (hv:RdL w0 X v xs) (hl:xs.length≤1000000000)
  (hp:∀ Y x e,x∈xs→Rep.rd w0 Y x e→Spec Tryz.prog w0 k0 (.agg e.toArray::caps) X (fun r h'=>r=.bool (p x)∧X=h')) :
  Spec Tryz.prog w0 205 [v,.func (.func k0) #[] caps.toArray] X (fun r h'=>r=.int .i64 (idxF p xs)∧X=h'):=by
 obtain ⟨a,c,rfl⟩:=hv.shape
 refine zN Tryz.func205 G Tryz.ntmps205 Tryz.results205 G fun fr=>?_
 repeat (first|refine zF ?_|refine zR ?_|refine zB ?_|refine zE ?_|refine zK G G G ?_|refine L_len G G G ?_)
 refine hold_count xs.length (fun k g L=>∃ R:Hp,g=[(0,.slice a xs.length c),(1,.func (.func k0) #[] caps.toArray),(7,.int .i64 xs.length),(8,.int .i64 k)]∧L=X+fr+R∧∀ x∈xs.take k,p x=false) _ ⟨0,rfl,(yB _).symm,by simp⟩ (by repeat (first|exact zT _|refine zO G ?_)) ?_
 rintro k g L hk ⟨R,rfl,rfl,hpre⟩
 repeat (first|refine zF ?_|refine zB ?_)
 refine yG G G (pv_lss G G) (fun h2=>?_) (fun h2=>?_)
 ·have hx:k<xs.length:=by omega
  obtain ⟨b2,o2,rfl,e,hr,hat⟩:=hv.at hx
  repeat (first|refine zF ?_|refine zR ?_|refine zB ?_|refine zE ?_|refine zK G G G ?_|refine zP ?_|refine zJ G ?_|refine L_idx G G (by omega) G G ?_)
  refine L_load G G (yF G) (zH G hat (beq_iff_eq.2 (Rep.len hr))) ?_
  refine zY G G (zQ G G (by simp<;>rfl)) (hp X xs[k] e (List.getElem_mem hx) hr) ?_
  rintro _ _ ⟨rfl,rfl⟩
  cases h3:p xs[k]
  ·repeat (first|refine zB ?_|refine zE ?_|refine zK G G G ?_|refine zP ?_|refine zI G ?_|refine L_add G G (by omega) (by omega) G G ?_)
   exact ⟨hx,_,(by repeat (first|exact zT _|refine zO G ?_)),_,rfl,yK.out,all_take_succ hx hpre h3⟩
  ·repeat (first|refine zF ?_|refine zB ?_|refine zE ?_|refine zK G G G ?_|refine zM ?_|refine zJ G ?_)
   exact ⟨[_],X,_,⟨rfl,trivial⟩,⟨by rw [idxF_hit hx h3 hpre]; rfl,rfl⟩,yK.out⟩
 ·repeat (first|refine zF ?_|refine yD ?_|refine zB ?_|refine zE ?_|refine zK G G G ?_|refine zM ?_|refine zI G ?_)
  rw [List.take_of_length_le (by omega)] at hpre
  exact ⟨[_],X,_,⟨rfl,trivial⟩,⟨by rw [idxF_miss hpre]; rfl,rfl⟩,yK.out⟩
theorem indexFuncKpt_spec (w0:World) (X:Hp) (v:Value) (xs:List Kpt) (k0:Nat) [hf:Fun Tryz.prog k0] (caps:List Value) (p:Kpt→Bool) (hv:RdL w0 X v xs) (hl:xs.length≤1000000000)
  (hp:∀ Y x e,x∈xs→Rep.rd w0 Y x e→Spec Tryz.prog w0 k0 (.agg e.toArray::caps) X (fun r h'=>r=.bool (p x)∧X=h')) :
  Spec Tryz.prog w0 250 [v,.func (.func k0) #[] caps.toArray] X (fun r h'=>r=.int .i64 (idxF p xs)∧X=h'):=by
 obtain ⟨a,c,rfl⟩:=hv.shape
 refine zN Tryz.func250 G Tryz.ntmps250 Tryz.results250 G fun fr=>?_
 repeat (first|refine zF ?_|refine zR ?_|refine zB ?_|refine zE ?_|refine zK G G G ?_|refine L_len G G G ?_)
 refine hold_count xs.length (fun k g L=>∃ R:Hp,g=[(0,.slice a xs.length c),(1,.func (.func k0) #[] caps.toArray),(7,.int .i64 xs.length),(8,.int .i64 k)]∧L=X+fr+R∧∀ x∈xs.take k,p x=false) _ ⟨0,rfl,(yB _).symm,by simp⟩ (by repeat (first|exact zT _|refine zO G ?_)) ?_
 rintro k g L hk ⟨R,rfl,rfl,hpre⟩
 repeat (first|refine zF ?_|refine zB ?_)
 refine yG G G (pv_lss G G) (fun h2=>?_) (fun h2=>?_)
 ·have hx:k<xs.length:=by omega
  obtain ⟨b2,o2,rfl,e,hr,hat⟩:=hv.at hx
  repeat (first|refine zF ?_|refine zR ?_|refine zB ?_|refine zE ?_|refine zK G G G ?_|refine zP ?_|refine zJ G ?_|refine L_idx G G (by omega) G G ?_)
  refine L_load G G (yF G) (zH G hat (beq_iff_eq.2 (Rep.len hr))) ?_
  refine zY G G (zQ G G (by simp<;>rfl)) (hp X xs[k] e (List.getElem_mem hx) hr) ?_
  rintro _ _ ⟨rfl,rfl⟩
  cases h3:p xs[k]
  ·repeat (first|refine zB ?_|refine zE ?_|refine zK G G G ?_|refine zP ?_|refine zI G ?_|refine L_add G G (by omega) (by omega) G G ?_)
   exact ⟨hx,_,(by repeat (first|exact zT _|refine zO G ?_)),_,rfl,yK.out,all_take_succ hx hpre h3⟩
  ·repeat (first|refine zF ?_|refine zB ?_|refine zE ?_|refine zK G G G ?_|refine zM ?_|refine zJ G ?_)
   exact ⟨[_],X,_,⟨rfl,trivial⟩,⟨by rw [idxF_hit hx h3 hpre]; rfl,rfl⟩,yK.out⟩
 ·repeat (first|refine zF ?_|refine yD ?_|refine zB ?_|refine zE ?_|refine zK G G G ?_|refine zM ?_|refine zI G ?_)
  rw [List.take_of_length_le (by omega)] at hpre
  exact ⟨[_],X,_,⟨rfl,trivial⟩,⟨by rw [idxF_miss hpre]; rfl,rfl⟩,yK.out⟩
theorem containsFuncWr_spec (w0:World) (X:Hp) (v:Value) (xs:List Wr) (k0:Nat) [hf:Fun Tryz.prog k0] (caps:List Value) (p:Wr→Bool) (hv:RdL w0 X v xs) (hl:xs.length≤1000000000)
  (hp:∀ Y x e,x∈xs→Rep.rd w0 Y x e→Spec Tryz.prog w0 k0 (.agg e.toArray::caps) X (fun r h'=>r=.bool (p x)∧X=h')) :
  Spec Tryz.prog w0 117 [v,.func (.func k0) #[] caps.toArray] X (fun r h'=>r=.bool (xs.any p)∧X=h'):=by
 have hi:=indexFuncWr_spec w0 X v xs k0 caps p hv hl hp
 obtain ⟨a,c,rfl⟩:=hv.shape
 refine zN Tryz.func117 G Tryz.ntmps117 Tryz.results117 G fun fr=>?_
 repeat (first|refine zF ?_|refine zB ?_|refine zE ?_|refine zK G G G ?_)
 refine zY G G (zQ G G G) hi ?_
 rintro _ _ ⟨rfl,rfl⟩
 refine yH G G (pv_geq G G) ?_
 repeat (first|refine zE ?_|refine zK G G G ?_|refine zM ?_)
 exact ⟨[_],X,_,⟨rfl,trivial⟩,⟨by rw [idxF_nonneg]; rfl,rfl⟩,yK.out⟩
theorem cloneB_spec (w0:World) (X:Hp) (v:Value) (xs:List Bt) (hv:RdL w0 X v xs) (hl:xs.length≤1000000000000) :
  Spec Tryz.prog w0 121 [v] X (fun r h'=>∃ h,OwL w0 X xs r h∧X+h=h'):=by
 obtain ⟨es,h1,h2⟩:=id hv
 obtain ⟨a,c,rfl⟩:=hv.shape
 refine zN Tryz.func121 G Tryz.ntmps121 Tryz.results121 G fun fr=>?_
 repeat (first|refine zF ?_|refine zB ?_|refine zE ?_|refine zK G G G ?_)
 refine L_bool G G (pv_slice_isnil G G) (fun h3=>?_) (fun h3=>?_)
 ·obtain rfl:xs=[]:=by
   cases xs with
   | nil=>rfl
   | cons x l =>
    obtain ⟨b,o,rfl,_⟩:=hv.at (i:=0) (by simp)
    simp at h3
  repeat (first|refine zF ?_|refine zB ?_|refine zE ?_|refine zK G G G ?_|refine zM ?_|refine zJ G ?_)
  exact ⟨[_],X,_,⟨rfl,trivial⟩,⟨0,OwL.nil _ none,yB _⟩,yK.out⟩
 ·repeat (first|refine zF ?_|refine zB ?_|refine zE ?_|refine zK G G G ?_|refine zP ?_|refine zI G ?_|refine L_bs (vs:=[]) (cells:=[]) G G G G G G (fun _=>?_))
  refine L_eff G G (ev_appendL (xs:=([]:List Bt)) (h:=0) G G (OwL.nil X _) (h1.frame) h2 G G G G G (by simp; omega)) ?_
  rintro v' _ ⟨h',hr',rfl⟩
  repeat (first|refine zE ?_|refine zK G G G ?_|refine zM ?_)
  exact ⟨[_],X+h',_,⟨rfl,trivial⟩,⟨h',hr',rfl⟩,yK.out⟩
theorem cloneBB_spec (w0:World) (X:Hp) (v:Value) (xs:List Bt) (hv:RdL w0 X v xs) (hl:xs.length≤1000000000000) :
  Spec Tryz.prog w0 167 [v] X (fun r h'=>∃ h,OwL w0 X xs r h∧X+h=h'):=by
 obtain ⟨es,h1,h2⟩:=id hv
 obtain ⟨a,c,rfl⟩:=hv.shape
 refine zN Tryz.func167 G Tryz.ntmps167 Tryz.results167 G fun fr=>?_
 repeat (first|refine zF ?_|refine zB ?_|refine zE ?_|refine zK G G G ?_)
 refine L_bool G G (pv_slice_isnil G G) (fun h3=>?_) (fun h3=>?_)
 ·obtain rfl:xs=[]:=by
   cases xs with
   | nil=>rfl
   | cons x l =>
    obtain ⟨b,o,rfl,_⟩:=hv.at (i:=0) (by simp)
    simp at h3
  repeat (first|refine zF ?_|refine zB ?_|refine zE ?_|refine zK G G G ?_|refine zM ?_|refine zJ G ?_)
  exact ⟨[_],X,_,⟨rfl,trivial⟩,⟨0,OwL.nil _ none,yB _⟩,yK.out⟩
 ·repeat (first|refine zF ?_|refine zB ?_|refine zE ?_|refine zK G G G ?_|refine zP ?_|refine zI G ?_|refine L_bs (vs:=[]) (cells:=[]) G G G G G G (fun _=>?_))
  refine L_eff G G (ev_appendL (xs:=([]:List Bt)) (h:=0) G G (OwL.nil X _) (h1.frame) h2 G G G G G (by simp; omega)) ?_
  rintro v' _ ⟨h',hr',rfl⟩
  repeat (first|refine zE ?_|refine zK G G G ?_|refine zM ?_)
  exact ⟨[_],X+h',_,⟨rfl,trivial⟩,⟨h',hr',rfl⟩,yK.out⟩
theorem cloneI_spec (w0:World) (X:Hp) (v:Value) (xs:List Int) (hv:RdL w0 X v xs) (hl:xs.length≤1000000000000) :
  Spec Tryz.prog w0 163 [v] X (fun r h'=>∃ h,OwL w0 X xs r h∧X+h=h'):=by
 obtain ⟨es,h1,h2⟩:=id hv
 obtain ⟨a,c,rfl⟩:=hv.shape
 refine zN Tryz.func163 G Tryz.ntmps163 Tryz.results163 G fun fr=>?_
 repeat (first|refine zF ?_|refine zB ?_|refine zE ?_|refine zK G G G ?_)
 refine L_bool G G (pv_slice_isnil G G) (fun h3=>?_) (fun h3=>?_)
 ·obtain rfl:xs=[]:=by
   cases xs with
   | nil=>rfl
   | cons x l =>
    obtain ⟨b,o,rfl,_⟩:=hv.at (i:=0) (by simp)
    simp at h3
  repeat (first|refine zF ?_|refine zB ?_|refine zE ?_|refine zK G G G ?_|refine zM ?_|refine zJ G ?_)
  exact ⟨[_],X,_,⟨rfl,trivial⟩,⟨0,OwL.nil _ none,yB _⟩,yK.out⟩
 ·repeat (first|refine zF ?_|refine zB ?_|refine zE ?_|refine zK G G G ?_|refine zP ?_|refine zI G ?_|refine L_bs (vs:=[]) (cells:=[]) G G G G G G (fun _=>?_))
  refine L_eff G G (ev_appendL (xs:=([]:List Int)) (h:=0) G G (OwL.nil X _) (h1.frame) h2 G G G G G (by simp; omega)) ?_
  rintro v' _ ⟨h',hr',rfl⟩
  repeat (first|refine zE ?_|refine zK G G G ?_|refine zM ?_)
  exact ⟨[_],X+h',_,⟨rfl,trivial⟩,⟨h',hr',rfl⟩,yK.out⟩
theorem binarySearchFuncBlk_spec (w0:World) (X:Hp) (v tv:Value) (xs:List Blk) (k0:Nat) [hf:Fun Tryz.prog k0] (caps:List Value) (c:Blk→Int) (hv:RdL w0 X v xs) (hl:xs.length≤1000000000)
  (hp:∀ Y x e,x∈xs→Rep.rd w0 Y x e→Spec Tryz.prog w0 k0 (.agg e.toArray::tv::caps) X (fun r h'=>r=.int .i64 (c x)∧X=h')) :
  Spec Tryz.prog w0 175 [v,tv,.func (.func k0) #[] caps.toArray] X (fun r h'=>∃ i:Nat,r=.tuple #[.int .i64 (i:Int),.bool (foundAt c xs i)]∧BsAt (fun x=>decide (c x<0)) xs i∧X=h'):=by
 obtain ⟨a,cc,rfl⟩:=hv.shape
 refine zN Tryz.func175 G Tryz.ntmps175 Tryz.results175 G fun fr=>?_
 repeat (first|refine zF ?_|refine zR ?_|refine zB ?_|refine zE ?_|refine zK G G G ?_|refine L_len G G G ?_)
 refine hold_loop (fun m g L=>∃ (i j:Nat) (R:Hp),i≤j∧j≤xs.length∧m=j - i∧g=[(0,.slice a xs.length cc),(1,tv),(2,.func (.func k0) #[] caps.toArray),(8,.int .i64 xs.length),(9,.int .i64 i),(10,.int .i64 j)]∧L=X+fr+R ∧
   (∀ h:0<i∧i - 1<xs.length,c xs[i - 1]<0)∧(∀ h:j<xs.length,¬ c xs[j]<0)) _ _ ⟨0,xs.length,0,by omega,by omega,rfl,rfl,(yB _).symm,fun h=>absurd h.1 (by omega),fun h=>absurd h (by omega)⟩ (by repeat (first|exact zT _|refine zO G ?_)) ?_
 rintro m g L ⟨i,j,R,hij,hjn,rfl,rfl,rfl,hlo,hhi⟩
 repeat (first|refine zF ?_|refine zB ?_|refine zK G G G ?_)
 refine yG G G (pv_lss G G) (fun h2=>?_) (fun h2=>?_)
 ·have hx:(i+j) / 2<xs.length:=by omega
  obtain ⟨b2,o2,rfl,e,hr,hat⟩:=hv.at hx
  repeat (first|refine zF ?_|refine zR ?_|refine zB ?_|refine zE ?_|refine zK G G G ?_|refine zP ?_|refine zJ G ?_|refine L_add G G (by omega) (by omega) G G ?_)
  refine yH G G (pv_conv_to G (m:=((i+j:Nat):Int)) (by rw [u64_in (by omega) (by omega)]; omega)) ?_
  refine yH G G (pv_shr1 G G) ?_
  refine yH G G (pv_conv_in G (by omega) (by omega)) ?_
  repeat (first|refine zF ?_|refine zB ?_|refine zE ?_|refine zK G G G ?_|refine L_idx G G (by omega) G G ?_)
  refine L_load G G (yF G) (zH G hat (beq_iff_eq.2 (Rep.len hr))) ?_
  repeat (refine zK G G G ?_)
  refine zY G G (zQ G G (by simp<;>rfl)) (hp X xs[(i+j) / 2] e (List.getElem_mem hx) hr) ?_
  rintro _ _ ⟨rfl,rfl⟩
  refine yG G G (pv_lss G G) (fun h3=>?_) (fun h3=>?_)
  ·repeat (first|refine zB ?_|refine zE ?_|refine zK G G G ?_|refine zJ G ?_|refine L_add G G (by omega) (by omega) G G ?_)
   exact ⟨j - ((i+j) / 2+1),_,by omega,(by repeat (first|exact zT _|refine zO G ?_)),(i+j) / 2+1,j,_,by omega,by omega,rfl,rfl,yK.out,fun h=>by simpa using h3,hhi⟩
  ·repeat (first|refine zB ?_|refine zE ?_|refine zK G G G ?_|refine zI G ?_)
   exact ⟨(i+j) / 2 - i,_,by omega,(by repeat (first|exact zT _|refine zO G ?_)),i,(i+j) / 2,_,by omega,by omega,rfl,rfl,yK.out,hlo,fun h=>h3⟩
 ·obtain rfl:i=j:=by omega
  have hbs:BsAt (fun x=>decide (c x<0)) xs i:=⟨hjn,fun h=>by simpa using hlo h,fun h=>by simpa using hhi h⟩
  repeat (first|refine zF ?_|refine yD ?_|refine zB ?_|refine zE ?_|refine zK G G G ?_|refine zI G ?_)
  refine yG G G (pv_lss G G) (fun h3=>?_) (fun h3=>?_)
  ·have hx:i<xs.length:=by omega
   obtain ⟨b2,o2,rfl,e,hr,hat⟩:=hv.at hx
   repeat (first|refine zK G G G ?_|refine L_idx G G (by omega) G G ?_)
   refine L_load G G (yF G) (zH G hat (beq_iff_eq.2 (Rep.len hr))) ?_
   repeat (refine zK G G G ?_)
   refine zY G G (zQ G G (by simp<;>rfl)) (hp X xs[i] e (List.getElem_mem hx) hr) ?_
   rintro _ _ ⟨rfl,rfl⟩
   refine yH G G (pv_eql G G) ?_
   repeat (first|refine zE ?_|refine zK G G G ?_|refine zM ?_)
   exact ⟨[_,_],X,_,⟨rfl,rfl,trivial⟩,⟨i,by rw [foundAt,dif_pos hx]; rfl,hbs,rfl⟩,yK.out⟩
  ·repeat (first|refine zE ?_|refine zK G G G ?_|refine L_skip G G ?_|refine zM ?_)
   exact ⟨[_,_],X,_,⟨rfl,rfl,trivial⟩,⟨i,by rw [foundAt,dif_neg (by omega)]; rfl,hbs,rfl⟩,yK.out⟩
theorem binarySearchFuncPrp_spec (w0:World) (X:Hp) (v x0 x1 x2 x3 x4 x5 x6:Value) (xs:List Prp) (k0:Nat) [hf:Fun Tryz.prog k0] (caps:List Value) (c:Prp→Int) (hv:RdL w0 X v xs) (hl:xs.length≤1000000000)
  (hp:∀ Y x e,x∈xs→Rep.rd w0 Y x e→Spec Tryz.prog w0 k0 (.agg e.toArray::.agg [x0,x1,x2,x3,x4,x5,x6].toArray::caps) X (fun r h'=>r=.int .i64 (c x)∧X=h')) :
  Spec Tryz.prog w0 198 [v,.agg [x0,x1,x2,x3,x4,x5,x6].toArray,.func (.func k0) #[] caps.toArray] X (fun r h'=>∃ i:Nat,r=.tuple #[.int .i64 (i:Int),.bool (foundAt c xs i)]∧BsAt (fun x=>decide (c x<0)) xs i∧X=h'):=by
 obtain ⟨a,cc,rfl⟩:=hv.shape
 refine zN Tryz.func198 G Tryz.ntmps198 Tryz.results198 G fun fr=>?_
 repeat (first|refine zF ?_|refine zR ?_|refine zB ?_|refine zE ?_|refine zK G G G ?_|refine L_len G G G ?_|refine L_box G (c:=[_,_,_,_,_,_,_]) G G G (fun _=>?_))
 rename_i b4
 refine hold_loop (fun m g L=>∃ (i j:Nat) (R:Hp),i≤j∧j≤xs.length∧m=j - i∧g=[(0,.slice a xs.length cc),(2,.func (.func k0) #[] caps.toArray),(4,.pointer (some ⟨b4,0,none⟩)),(8,.int .i64 xs.length),(9,.int .i64 i),(10,.int .i64 j)]∧L=X+pt b4 (.cells [x0,x1,x2,x3,x4,x5,x6].toArray 57 (0,0))+fr+R ∧
   (∀ h:0<i∧i - 1<xs.length,c xs[i - 1]<0)∧(∀ h:j<xs.length,¬ c xs[j]<0)) _ _ ⟨0,xs.length,0,by omega,by omega,rfl,rfl,by simp only [yB]; ac_rfl,fun h=>absurd h.1 (by omega),fun h=>absurd h (by omega)⟩ (by repeat (first|exact zT _|refine zO G ?_)) ?_
 rintro m g L ⟨i,j,R,hij,hjn,rfl,rfl,rfl,hlo,hhi⟩
 repeat (first|refine zF ?_|refine zB ?_|refine zK G G G ?_)
 refine yG G G (pv_lss G G) (fun h2=>?_) (fun h2=>?_)
 ·have hx:(i+j) / 2<xs.length:=by omega
  obtain ⟨b2,o2,rfl,e,hr,hat⟩:=hv.at hx
  repeat (first|refine zF ?_|refine zR ?_|refine zB ?_|refine zE ?_|refine zK G G G ?_|refine zP ?_|refine zJ G ?_|refine L_add G G (by omega) (by omega) G G ?_)
  refine yH G G (pv_conv_to G (m:=((i+j:Nat):Int)) (by rw [u64_in (by omega) (by omega)]; omega)) ?_
  refine yH G G (pv_shr1 G G) ?_
  refine yH G G (pv_conv_in G (by omega) (by omega)) ?_
  repeat (first|refine zF ?_|refine zE ?_|refine zK G G G ?_)
  refine yC [6] [0,1,2,3,4,5,6,7] (by kernel_rfl) G (by kernel_rfl) (by kernel_rfl) ?_
  repeat (first|refine yI G G G G G ?_|refine W_idx G G G (by omega) G G G ?_)
  refine W_load G G G G (yF G) (zH G hat (beq_iff_eq.2 (Rep.len hr))) ?_
  repeat (refine W_load G G G G (yF G) (zL (vs:=[_,_,_,_,_,_,_]) G G G) ?_)
  refine W_call G G G G (zQ G G (by simp<;>rfl)) (hp X xs[(i+j) / 2] e (List.getElem_mem hx) hr) (Kept.all _) ?_
  rintro _ _ ⟨rfl,rfl⟩
  refine ⟨⟨zL G G G,zH G hat (beq_iff_eq.2 (Rep.len hr)),trivial⟩,?_⟩
  refine W_dec G G G G (pv_lss G G) (fun h3=>?_) (fun h3=>?_)
  ·repeat (refine yJ ?_)
   repeat (first|refine zB ?_|refine zE ?_|refine zK G G G ?_|refine zJ G ?_|refine L_add G G (by omega) (by omega) G G ?_)
   exact ⟨j - ((i+j) / 2+1),_,by omega,(by repeat (first|exact zT _|refine zO G ?_)),(i+j) / 2+1,j,_,by omega,by omega,rfl,rfl,yK.out,fun h=>by simpa using h3,hhi⟩
  ·repeat (refine yJ ?_)
   repeat (first|refine zB ?_|refine zE ?_|refine zK G G G ?_|refine zI G ?_)
   exact ⟨(i+j) / 2 - i,_,by omega,(by repeat (first|exact zT _|refine zO G ?_)),i,(i+j) / 2,_,by omega,by omega,rfl,rfl,yK.out,hlo,fun h=>h3⟩
 ·obtain rfl:i=j:=by omega
  have hbs:BsAt (fun x=>decide (c x<0)) xs i:=⟨hjn,fun h=>by simpa using hlo h,fun h=>by simpa using hhi h⟩
  repeat (first|refine zF ?_|refine yD ?_|refine zE ?_|refine zI G ?_)
  refine yC [11] [0,1,2,3,4,5,6,7,8,9,10,11,12,13,14,15] (by kernel_rfl) G (by kernel_rfl) (by kernel_rfl) ?_
  repeat (refine yI G G G G G ?_)
  refine W_dec G G G G (pv_lss G G) (fun h3=>?_) (fun h3=>?_)
  ·have hx:i<xs.length:=by omega
   obtain ⟨b2,o2,rfl,e,hr,hat⟩:=hv.at hx
   repeat (first|refine yI G G G G G ?_|refine W_idx G G G (by omega) G G G ?_)
   refine W_load G G G G (yF G) (zH G hat (beq_iff_eq.2 (Rep.len hr))) ?_
   repeat (refine W_load G G G G (yF G) (zL (vs:=[_,_,_,_,_,_,_]) G G G) ?_)
   refine W_call G G G G (zQ G G (by simp<;>rfl)) (hp X xs[i] e (List.getElem_mem hx) hr) (Kept.all _) ?_
   rintro _ _ ⟨rfl,rfl⟩
   refine ⟨⟨zL G G G,zH G hat (beq_iff_eq.2 (Rep.len hr)),trivial⟩,?_⟩
   refine yE G G G G (pv_eql G G) ?_
   repeat (first|refine yJ ?_|refine yI G G G G G ?_)
   repeat (refine zM ?_)
   exact ⟨[_,_],X,_,⟨rfl,rfl,trivial⟩,⟨i,by rw [foundAt,dif_pos hx]; rfl,hbs,rfl⟩,yK.out⟩
  ·repeat (first|refine yJ ?_|refine yI G G G G G ?_|refine W_skip G G G G ?_|refine W_not G G G G ?_)
   repeat (refine zM ?_)
   exact ⟨[_,_],X,_,⟨rfl,rfl,trivial⟩,⟨i,by rw [foundAt,dif_neg (by omega)]; rfl,hbs,rfl⟩,yK.out⟩
end Sl
end Go.Proofs.YtpkealohodeifaaGreat
namespace Go.Proofs.YtpkealohodeifaaGreat
open Go Go.RowKit
namespace Sl
set_option maxHeartbeats 4000000
set_option maxRecDepth 4000
attribute [local irreducible] Hold HoldL HoldW
theorem deleteFuncKpt_spec (w0:World) (X:Hp) (xs:List Kpt) (v:Value) (h:Hp) (k0:Nat) [hf:Fun Tryz.prog k0] (caps:List Value) (p:Kpt→Bool) (hr:OwL w0 X xs v h) (hl:xs.length≤1000000000)
  (hp:∀ Y x e,x∈xs→Rep.rd w0 Y x e→Spec Tryz.prog w0 k0 (.agg e.toArray::caps) X (fun r h'=>r=.bool (p x)∧X=h')) :
  Spec Tryz.prog w0 214 [v,.func (.func k0) #[] caps.toArray] (X+h) (fun r h'=>∃ h2,OwL w0 X (xs.filter fun x=>!p x) r h2∧X+h2=h'):=by
 have hif:=indexFuncKpt_spec w0 (X+h) v xs k0 caps p hr.rd0 hl (fun Y x e hx he=>Spec.frameL G (hp Y x e hx he))
 obtain ⟨es,h1,h2⟩:=id hr
 obtain ⟨a,c,rfl⟩:=hr.shape
 have hlen:=h2.length
 refine zN Tryz.func214 G Tryz.ntmps214 Tryz.results214 G fun fr=>?_
 repeat (first|refine zF ?_|refine zB ?_|refine zE ?_|refine zK G G G ?_)
 refine zY G G (zQ G G G) hif ?_
 rintro _ _ ⟨rfl,rfl⟩
 repeat (first|refine zF ?_|refine zB ?_|refine zE ?_|refine zK G G G ?_)
 rcases idxF_cases p xs with ⟨hi,hall⟩|⟨i0,hi0,hi,hpi,hall⟩
 ·rw [hi]
  refine L_yes G G (pv_eql G G) G ?_
  repeat (first|refine zF ?_|refine zB ?_|refine zE ?_|refine zK G G G ?_|refine zM ?_|refine zJ G ?_)
  exact ⟨[_],X+h,_,⟨rfl,trivial⟩,⟨h,by rw [List.filter_eq_self.2 (fun x hx=>by rw [hall x hx]; rfl)]; exact hr,rfl⟩,yK.out⟩
 ·rw [hi]
  refine L_no G G (pv_eql G G) (by omega) ?_
  repeat (first|refine zF ?_|refine zR ?_|refine zB ?_|refine zE ?_|refine zK G G G ?_|refine zP ?_|refine zI G ?_|refine L_add G G (by omega) (by omega) G G ?_)
  obtain ⟨b,cap,spare,e1,rfl,hes,hcap,hmax,hsp⟩:=h1.nonempty (by intro e; subst e; simp at hlen; omega)
  simp only [Value.slice.injEq] at e1
  obtain ⟨rfl,-,rfl⟩:=e1
  rw [hlen] at hcap hsp
  change spare.length=(c - xs.length)*3 at hsp
  have hei0:i0<es.length:=by omega
  refine hold_loop (fun m g L=>∃ (i j:Nat) (fs ms:List (List Value)) (R:Hp),fs.length=i∧i+ms.length=j∧i<j∧j≤xs.length∧m=xs.length - j ∧
    g=[(0,.slice (some ⟨b,0,none⟩) xs.length c),(1,.func (.func k0) #[] caps.toArray),(5,.int .i64 i),(6,.int .i64 j)] ∧
    All2 (Rep.rd w0 X) ((xs.take j).filter fun x=>!p x) fs∧(∀ e∈ms,e.length=3) ∧
    L=X+pt b (.cells ((fs++(ms++es.drop j)).flatten++spare).toArray 73 (0,0))+fr+R) _ _
   ⟨i0,i0+1,es.take i0,[es[i0]],0,by rw [List.length_take]; omega,by simp,by omega,by omega,rfl,rfl,?_,?_,?_⟩ (by repeat (first|exact zT _|refine zO G ?_)) ?_
  ·rw [List.take_succ_eq_append_getElem hi0,List.filter_append,List.filter_cons,hpi,List.filter_nil]
   simp only [Bool.not_true,Bool.false_eq_true,if_false,List.append_nil]
   rw [List.filter_eq_self.2 (fun x hx=>by rw [hall x hx]; rfl)]
   exact h2.take i0
  ·intro e he
   rw [List.mem_singleton] at he; subst he
   exact hes _ (List.getElem_mem hei0)
  ·rw [show es.take i0++([es[i0]]++es.drop (i0+1))=es by rw [List.singleton_append,← List.drop_eq_getElem_cons hei0,List.take_append_drop],yB]
   rfl
  rintro m g L ⟨i,j,fs,ms,R,rfl,hms,hij,hj,rfl,rfl,hfs,hmz,rfl⟩
  have hfl:∀ e∈fs,e.length=3:=hfs.lens
  have hcur:∀ e∈fs++(ms++es.drop j),e.length=3:=by
   intro e he
   rcases List.mem_append.1 he with he|he
   ·exact hfl e he
   ·rcases List.mem_append.1 he with he|he
    ·exact hmz e he
    ·exact hes e (List.mem_of_mem_drop he)
  repeat (first|refine zF ?_|refine zB ?_|refine zK G G G ?_|refine L_len G G G ?_)
  refine yG G G (pv_lss G G) (fun n2=>?_) (fun n2=>?_)
  ·have hx:j<xs.length:=by omega
   obtain ⟨e,hej,hre⟩:=h2.get hx
   have hcj:(fs++(ms++es.drop j))[j]?=some e:=by
    rw [List.getElem?_append_right (by omega),List.getElem?_append_right (by omega),List.getElem?_drop,← hej]
    congr 1; omega
   have hat:At w0 _ b (0+j*3) e:=at_row (spare:=spare) (E:=73) (fz:=(0,0)) hcur hcj
   have hd:es.drop j=e::es.drop (j+1):=by
    have:j<es.length:=by omega
    rw [List.drop_eq_getElem_cons this]
    rw [List.getElem?_eq_getElem this] at hej
    rw [Option.some.inj hej]
   have htk:(xs.take (j+1)).filter (fun x=>!p x)=(xs.take j).filter (fun x=>!p x)++(if p xs[j]=true then [] else [xs[j]]):=by
    rw [List.take_succ_eq_append_getElem hx,List.filter_append]
    congr 1
    by_cases h:p xs[j]=true<;>simp [h]
   have hel:=Rep.len hre
   obtain ⟨av,cv,rfl,hvd⟩:=id hre
   repeat (first|refine zF ?_|refine zR ?_|refine zB ?_|refine zE ?_|refine zK G G G ?_|refine zP ?_|refine zJ G ?_|refine L_idx G G (by omega) G G ?_|refine L_atA G (by assumption) G G G G ?_|refine L_ldA G (vs:=[_,_,_]) G G G G G ?_|refine L_stA G (vs:=[_,_,_]) G G G G (c':=[_,_,_]) G G ?_|refine L_alloc (c:=[_,_,_]) G G G (fun _=>?_))
   refine zY G G (zQ G G (by simp<;>rfl)) (hp X xs[j] _ (List.getElem_mem hx) hre) ?_
   rintro _ _ ⟨rfl,rfl⟩
   cases h3:p xs[j]
   ·rw [if_neg (by rw [h3]; simp)] at htk
    obtain ⟨r0,rs,hr0,hrl,ms',hms',hml⟩:∃ r0 rs,ms++es.drop j=r0::rs∧r0.length=3∧∃ ms',rs=ms'++es.drop (j+1)∧ms'.length=ms.length:=by
     cases ms with
     | nil=>exact ⟨_,_,hd,hel,[],rfl,rfl⟩
     | cons m0 ms1=>exact ⟨m0,ms1++es.drop j,rfl,hmz m0 (by simp),ms1++(es.drop j).take 1,by rw [hd]; simp,by rw [hd]; simp⟩
    have hmz':∀ e∈ms',e.length=3:=by
     intro e' he'
     exact hcur e' (List.mem_append_right _ (by rw [hr0,hms']; exact List.mem_cons_of_mem _ (List.mem_append_left _ he')))
    rw [hr0]
    repeat (first|refine zF ?_|refine zB ?_|refine zE ?_|refine zK G G G ?_|refine zJ G ?_|refine L_idx G G (by omega) G G ?_|refine L_ldA G (vs:=[_,_,_]) G G G G G ?_)
    refine L_eff G G (ev_storeA (vs:=[_,_,_]) G G G G (c:=(fs++r0::rs).flatten++spare) (by simp only [List.flatten_append,List.length_append,length_flat hfl,List.flatten_cons,hrl]; simp; omega) (c':=(fs++[[_,_,_]]++rs).flatten++spare) (splice_row hfl hrl G)) ?_
    rintro _ _ rfl
    repeat (first|refine zB ?_|refine zE ?_|refine zK G G G ?_|refine L_add G G (by omega) (by omega) G G ?_)
    exact ⟨xs.length - (j+1),_,by omega,(by repeat (first|exact zT _|refine zO G ?_)),fs.length+1,j+1,fs++[_],ms',_,by simp,by omega,by omega,by omega,rfl,rfl,by rw [htk]; exact hfs.append (All2.one hre),hmz',by rw [← hms']; exact yK.out⟩
   ·rw [if_pos h3,List.append_nil] at htk
    repeat (first|refine zB ?_|refine zE ?_|refine zK G G G ?_|refine zP ?_|refine zI G ?_|refine L_add G G (by omega) (by omega) G G ?_)
    refine ⟨xs.length - (j+1),_,by omega,(by repeat (first|exact zT _|refine zO G ?_)),fs.length,j+1,fs,ms++[_],_,rfl,by simp; omega,by omega,by omega,rfl,rfl,by rw [htk]; exact hfs,?_,by rw [List.append_assoc ms,List.singleton_append,← hd]; exact yK.out⟩
    intro e' he'
    rcases List.mem_append.1 he' with he'|he'
    ·exact hmz e' he'
    ·rw [List.mem_singleton] at he'; subst he'; exact hel
  ·obtain rfl:j=xs.length:=by omega
   rw [List.take_length] at hfs
   rw [List.drop_of_length_le (by omega),List.append_nil]
   repeat (first|refine zF ?_|refine yD ?_|refine zB ?_|refine zE ?_|refine zK G G G ?_|refine zI G ?_)
   refine yH G G (pv_slice_l (l:=fs.length) G G (by omega)) ?_
   rw [shiftA_some (b:=b) (l:=fs.length) (cap:=c) (by omega)]
   have lf:fs.flatten.length=fs.length*3:=length_flat hfl
   have lm:ms.flatten.length=ms.length*3:=length_flat hmz
   refine L_eff G G (ev_clearZ G G G (by rw [List.length_append,List.flatten_append,List.length_append,lf,lm]; omega)) ?_
   rintro _ _ ⟨zs,hzs,rfl⟩
   rw [show 0+fs.length*3=fs.flatten.length by omega,List.flatten_append,List.append_assoc,splice_append ms.flatten zs (by rw [lm,hzs]; omega) spare]
   repeat (first|refine zF ?_|refine zB ?_|refine zE ?_|refine zK G G G ?_)
   refine yH G G (pv_slice_h (m:=fs.length) G G (by omega)) ?_
   repeat (first|refine zE ?_|refine zK G G G ?_|refine zM ?_)
   exact ⟨[_],X+pt b (.cells (fs.flatten++(zs++spare)).toArray 73 (0,0)),_,⟨rfl,trivial⟩,⟨_,⟨fs,isRow_block (E:=73) (b:=b) hfl (by omega) hmax (by rw [List.length_append,hzs,hsp]; show _=(c - fs.length)*3; omega),hfs⟩,rfl⟩,yK.out⟩
theorem deleteFuncOut_spec (w0:World) (X:Hp) (xs:List Outp) (v:Value) (h:Hp) (k0:Nat) [hf:Fun Tryz.prog k0] (caps:List Value) (p:Outp→Bool) (hr:OwL w0 X xs v h) (hl:xs.length≤1000000000)
  (hp:∀ Y x e,x∈xs→Rep.rd w0 Y x e→Spec Tryz.prog w0 k0 (.agg e.toArray::caps) X (fun r h'=>r=.bool (p x)∧X=h')) :
  Spec Tryz.prog w0 220 [v,.func (.func k0) #[] caps.toArray] (X+h) (fun r h'=>∃ h2,OwL w0 X (xs.filter fun x=>!p x) r h2∧X+h2=h'):=by
 have hif:=indexFuncOut_spec w0 (X+h) v xs k0 caps p hr.rd0 hl (fun Y x e hx he=>Spec.frameL G (hp Y x e hx he))
 obtain ⟨es,h1,h2⟩:=id hr
 obtain ⟨a,c,rfl⟩:=hr.shape
 have hlen:=h2.length
 refine zN Tryz.func220 G Tryz.ntmps220 Tryz.results220 G fun fr=>?_
 repeat (first|refine zF ?_|refine zB ?_|refine zE ?_|refine zK G G G ?_)
 refine zY G G (zQ G G G) hif ?_
 rintro _ _ ⟨rfl,rfl⟩
 repeat (first|refine zF ?_|refine zB ?_|refine zE ?_|refine zK G G G ?_)
 rcases idxF_cases p xs with ⟨hi,hall⟩|⟨i0,hi0,hi,hpi,hall⟩
 ·rw [hi]
  refine L_yes G G (pv_eql G G) G ?_
  repeat (first|refine zF ?_|refine zB ?_|refine zE ?_|refine zK G G G ?_|refine zM ?_|refine zJ G ?_)
  exact ⟨[_],X+h,_,⟨rfl,trivial⟩,⟨h,by rw [List.filter_eq_self.2 (fun x hx=>by rw [hall x hx]; rfl)]; exact hr,rfl⟩,yK.out⟩
 ·rw [hi]
  refine L_no G G (pv_eql G G) (by omega) ?_
  repeat (first|refine zF ?_|refine zR ?_|refine zB ?_|refine zE ?_|refine zK G G G ?_|refine zP ?_|refine zI G ?_|refine L_add G G (by omega) (by omega) G G ?_)
  obtain ⟨b,cap,spare,e1,rfl,hes,hcap,hmax,hsp⟩:=h1.nonempty (by intro e; subst e; simp at hlen; omega)
  simp only [Value.slice.injEq] at e1
  obtain ⟨rfl,-,rfl⟩:=e1
  rw [hlen] at hcap hsp
  change spare.length=(c - xs.length)*4 at hsp
  have hei0:i0<es.length:=by omega
  refine hold_loop (fun m g L=>∃ (i j:Nat) (fs ms:List (List Value)) (R:Hp),fs.length=i∧i+ms.length=j∧i<j∧j≤xs.length∧m=xs.length - j ∧
    g=[(0,.slice (some ⟨b,0,none⟩) xs.length c),(1,.func (.func k0) #[] caps.toArray),(5,.int .i64 i),(6,.int .i64 j)] ∧
    All2 (Rep.rd w0 X) ((xs.take j).filter fun x=>!p x) fs∧(∀ e∈ms,e.length=4) ∧
    L=X+pt b (.cells ((fs++(ms++es.drop j)).flatten++spare).toArray 106 (0,0))+fr+R) _ _
   ⟨i0,i0+1,es.take i0,[es[i0]],0,by rw [List.length_take]; omega,by simp,by omega,by omega,rfl,rfl,?_,?_,?_⟩ (by repeat (first|exact zT _|refine zO G ?_)) ?_
  ·rw [List.take_succ_eq_append_getElem hi0,List.filter_append,List.filter_cons,hpi,List.filter_nil]
   simp only [Bool.not_true,Bool.false_eq_true,if_false,List.append_nil]
   rw [List.filter_eq_self.2 (fun x hx=>by rw [hall x hx]; rfl)]
   exact h2.take i0
  ·intro e he
   rw [List.mem_singleton] at he; subst he
   exact hes _ (List.getElem_mem hei0)
  ·rw [show es.take i0++([es[i0]]++es.drop (i0+1))=es by rw [List.singleton_append,← List.drop_eq_getElem_cons hei0,List.take_append_drop],yB]
   rfl
  rintro m g L ⟨i,j,fs,ms,R,rfl,hms,hij,hj,rfl,rfl,hfs,hmz,rfl⟩
  have hfl:∀ e∈fs,e.length=4:=hfs.lens
  have hcur:∀ e∈fs++(ms++es.drop j),e.length=4:=by
   intro e he
   rcases List.mem_append.1 he with he|he
   ·exact hfl e he
   ·rcases List.mem_append.1 he with he|he
    ·exact hmz e he
    ·exact hes e (List.mem_of_mem_drop he)
  repeat (first|refine zF ?_|refine zB ?_|refine zK G G G ?_|refine L_len G G G ?_)
  refine yG G G (pv_lss G G) (fun n2=>?_) (fun n2=>?_)
  ·have hx:j<xs.length:=by omega
   obtain ⟨e,hej,hre⟩:=h2.get hx
   have hcj:(fs++(ms++es.drop j))[j]?=some e:=by
    rw [List.getElem?_append_right (by omega),List.getElem?_append_right (by omega),List.getElem?_drop,← hej]
    congr 1; omega
   have hat:At w0 _ b (0+j*4) e:=at_row (spare:=spare) (E:=106) (fz:=(0,0)) hcur hcj
   have hd:es.drop j=e::es.drop (j+1):=by
    have:j<es.length:=by omega
    rw [List.drop_eq_getElem_cons this]
    rw [List.getElem?_eq_getElem this] at hej
    rw [Option.some.inj hej]
   have htk:(xs.take (j+1)).filter (fun x=>!p x)=(xs.take j).filter (fun x=>!p x)++(if p xs[j]=true then [] else [xs[j]]):=by
    rw [List.take_succ_eq_append_getElem hx,List.filter_append]
    congr 1
    by_cases h:p xs[j]=true<;>simp [h]
   have hel:=Rep.len hre
   obtain ⟨av,cv,rfl,hvd⟩:=id hre
   repeat (first|refine zF ?_|refine zR ?_|refine zB ?_|refine zE ?_|refine zK G G G ?_|refine zP ?_|refine zJ G ?_|refine L_idx G G (by omega) G G ?_|refine L_atA G (by assumption) G G G G ?_|refine L_ldA G (vs:=[_,_,_,_]) G G G G G ?_|refine L_stA G (vs:=[_,_,_,_]) G G G G (c':=[_,_,_,_]) G G ?_|refine L_alloc (c:=[_,_,_,_]) G G G (fun _=>?_))
   refine zY G G (zQ G G (by simp<;>rfl)) (hp X xs[j] _ (List.getElem_mem hx) hre) ?_
   rintro _ _ ⟨rfl,rfl⟩
   cases h3:p xs[j]
   ·rw [if_neg (by rw [h3]; simp)] at htk
    obtain ⟨r0,rs,hr0,hrl,ms',hms',hml⟩:∃ r0 rs,ms++es.drop j=r0::rs∧r0.length=4∧∃ ms',rs=ms'++es.drop (j+1)∧ms'.length=ms.length:=by
     cases ms with
     | nil=>exact ⟨_,_,hd,hel,[],rfl,rfl⟩
     | cons m0 ms1=>exact ⟨m0,ms1++es.drop j,rfl,hmz m0 (by simp),ms1++(es.drop j).take 1,by rw [hd]; simp,by rw [hd]; simp⟩
    have hmz':∀ e∈ms',e.length=4:=by
     intro e' he'
     exact hcur e' (List.mem_append_right _ (by rw [hr0,hms']; exact List.mem_cons_of_mem _ (List.mem_append_left _ he')))
    rw [hr0]
    repeat (first|refine zF ?_|refine zB ?_|refine zE ?_|refine zK G G G ?_|refine zJ G ?_|refine L_idx G G (by omega) G G ?_|refine L_ldA G (vs:=[_,_,_,_]) G G G G G ?_)
    refine L_eff G G (ev_storeA (vs:=[_,_,_,_]) G G G G (c:=(fs++r0::rs).flatten++spare) (by simp only [List.flatten_append,List.length_append,length_flat hfl,List.flatten_cons,hrl]; simp; omega) (c':=(fs++[[_,_,_,_]]++rs).flatten++spare) (splice_row hfl hrl G)) ?_
    rintro _ _ rfl
    repeat (first|refine zB ?_|refine zE ?_|refine zK G G G ?_|refine L_add G G (by omega) (by omega) G G ?_)
    exact ⟨xs.length - (j+1),_,by omega,(by repeat (first|exact zT _|refine zO G ?_)),fs.length+1,j+1,fs++[_],ms',_,by simp,by omega,by omega,by omega,rfl,rfl,by rw [htk]; exact hfs.append (All2.one hre),hmz',by rw [← hms']; exact yK.out⟩
   ·rw [if_pos h3,List.append_nil] at htk
    repeat (first|refine zB ?_|refine zE ?_|refine zK G G G ?_|refine zP ?_|refine zI G ?_|refine L_add G G (by omega) (by omega) G G ?_)
    refine ⟨xs.length - (j+1),_,by omega,(by repeat (first|exact zT _|refine zO G ?_)),fs.length,j+1,fs,ms++[_],_,rfl,by simp; omega,by omega,by omega,rfl,rfl,by rw [htk]; exact hfs,?_,by rw [List.append_assoc ms,List.singleton_append,← hd]; exact yK.out⟩
    intro e' he'
    rcases List.mem_append.1 he' with he'|he'
    ·exact hmz e' he'
    ·rw [List.mem_singleton] at he'; subst he'; exact hel
  ·obtain rfl:j=xs.length:=by omega
   rw [List.take_length] at hfs
   rw [List.drop_of_length_le (by omega),List.append_nil]
   repeat (first|refine zF ?_|refine yD ?_|refine zB ?_|refine zE ?_|refine zK G G G ?_|refine zI G ?_)
   refine yH G G (pv_slice_l (l:=fs.length) G G (by omega)) ?_
   rw [shiftA_some (b:=b) (l:=fs.length) (cap:=c) (by omega)]
   have lf:fs.flatten.length=fs.length*4:=length_flat hfl
   have lm:ms.flatten.length=ms.length*4:=length_flat hmz
   refine L_eff G G (ev_clearZ G G G (by rw [List.length_append,List.flatten_append,List.length_append,lf,lm]; omega)) ?_
   rintro _ _ ⟨zs,hzs,rfl⟩
   rw [show 0+fs.length*4=fs.flatten.length by omega,List.flatten_append,List.append_assoc,splice_append ms.flatten zs (by rw [lm,hzs]; omega) spare]
   repeat (first|refine zF ?_|refine zB ?_|refine zE ?_|refine zK G G G ?_)
   refine yH G G (pv_slice_h (m:=fs.length) G G (by omega)) ?_
   repeat (first|refine zE ?_|refine zK G G G ?_|refine zM ?_)
   exact ⟨[_],X+pt b (.cells (fs.flatten++(zs++spare)).toArray 106 (0,0)),_,⟨rfl,trivial⟩,⟨_,⟨fs,isRow_block (E:=106) (b:=b) hfl (by omega) hmax (by rw [List.length_append,hzs,hsp]; show _=(c - fs.length)*4; omega),hfs⟩,rfl⟩,yK.out⟩
theorem deletePrp_spec (w0:World) (b cap:Nat) (es:List (List Value)) (spare:List Value) (i:Nat) (hi:i<es.length) (hes:∀ x∈es,x.length=7) (h1:∀ n∈es,∀ u∈n,u.oneCell'=true) (hcap:es.length≤cap) (hlim:es.length≤1000000000) :
  Spec Tryz.prog w0 204 [.slice (some ⟨b,0,none⟩) es.length cap,.int .i64 (i:Int),.int .i64 ((i:Int)+1)] (pt b (.cells (es.flatten++spare).toArray 57 (0,0)))
   (fun r h'=>r=.slice (some ⟨b,0,none⟩) (es.length - 1) cap∧∃ z:List Value,z.length=7∧h'=pt b (.cells ((es.eraseIdx i).flatten++(z++spare)).toArray 57 (0,0))):=by
 refine spec_of_hold Tryz.func204 G Tryz.ntmps204 Tryz.results204 G fun fr=>?_
 repeat (first|refine zF ?_|refine zB ?_|refine zE ?_|refine zK G G G ?_|refine L_len G G G ?_)
 refine yH G G (pv_slice_lhm (h:=i+1) G G G G (by omega) (by omega) hcap) ?_
 repeat (first|refine zF ?_|refine zB ?_|refine zE ?_|refine zK G G G ?_)
 refine L_no G G (pv_eql G G) (by omega) ?_
 repeat (first|refine zF ?_|refine zB ?_|refine zE ?_|refine zK G G G ?_|refine L_len G G G ?_|refine zP ?_|refine zI G ?_)
 have hrd:RdRow w0 (pt b (.cells (es.flatten++spare).toArray 57 (0,0))+fr) 7 (.slice (some ⟨b,0,none⟩) es.length cap) es:=rd_block hes
 have hrd2:=hrd.drop (l:=i+1) (by omega) hcap
 have e1:es.flatten++spare=(es.take i).flatten++((es.drop i).flatten++spare):=by rw [← List.append_assoc,← List.flatten_append,List.take_append_drop]
 have e2:(es.drop i).flatten=es[i]++(es.drop (i+1)).flatten:=by rw [List.drop_eq_getElem_cons hi,List.flatten_cons]
 have l1:(es.drop (i+1)).flatten.length=(es.length - (i+1))*7:=by rw [length_flat (fun x hx=>hes x (List.mem_of_mem_drop hx)),List.length_drop]
 have l2:es[i].length=7:=hes _ (List.getElem_mem hi)
 have l3:(es.drop i).flatten.length=(es.length - i)*7:=by rw [length_flat (fun x hx=>hes x (List.mem_of_mem_drop hx)),List.length_drop]
 rw [e1]
 rw [e1] at hrd2
 refine yC [6] [0,1,2,3,4,5,6,7] (by kernel_rfl) G (by kernel_rfl) (by kernel_rfl) ?_
 repeat (refine yI G G G G G ?_)
 refine yE G G G G (pv_slice_h G G (by omega)) ?_
 repeat (refine yI G G G G G ?_)
 refine yE G G G G (pv_slice_l (l:=i+1) G G (by omega)) ?_
 refine W_eff G G G G (ev_append_room (xs:=es.take i) G (by rw [List.length_take]; omega) G (fun x hx=>hes x (List.mem_of_mem_take hx)) hrd2 (fun n hn=>h1 n (List.mem_of_mem_drop hn)) (by rw [List.length_drop]; omega) (by rw [List.length_drop,List.length_append,l3]; omega)) .nil ?_
 rintro _ _ ⟨rfl,rfl⟩
 refine ⟨trivial,?_⟩
 rw [List.length_drop,← List.eraseIdx_eq_take_drop_succ,show i+(es.length - (i+1))=es.length - 1 by omega,List.drop_append_of_le_length (by rw [l3]; omega)]
 generalize hz4:List.drop ((es.length - (i+1))*7) (List.drop i es).flatten=z4
 have l4:z4.length=7:=by rw [← hz4,List.length_drop,l3]; omega
 repeat (first|refine yJ ?_|refine yI G G G G G ?_)
 repeat (first|refine zF ?_|refine zB ?_|refine zK G G G ?_|refine L_len G G G ?_)
 refine yH G G (pv_slice_lh (l:=es.length - 1) (h:=es.length) G G G (by omega) (by omega)) ?_
 rw [shiftA_some (l:=es.length - 1) (by omega)]
 have le:(es.eraseIdx i).flatten.length=(es.length - 1)*7:=by
  rw [length_flat (fun x hx=>hes x (List.mem_of_mem_eraseIdx hx)),List.length_eraseIdx,if_pos hi]
 refine L_eff G G (ev_clear G G G (by rw [List.length_append,List.length_append,le,l4]; omega)) ?_
 rintro _ _ rfl
 rw [show es.length - (es.length - 1)=1 by omega,show 0+(es.length - 1)*7=(es.eraseIdx i).flatten.length by rw [le]; omega]
 rw [splice_append z4 (List.replicate 1 (Value.cells _).toList).flatten (by rw [l4]; rfl) spare]
 repeat (first|refine zF ?_|refine zB ?_|refine zE ?_|refine zK G G G ?_|refine zM ?_)
 exact ⟨[_],_,⟨rfl,trivial⟩,⟨rfl,_,rfl,rfl⟩,rfl⟩
theorem deleteAtPrp_spec (w0:World) (es:List (List Value)) (v:Value) (h:Hp) (i:Nat) (hr:isRow 57 7 es v h) (hi:i<es.length) (h1:∀ n∈es,∀ u∈n,u.oneCell'=true) (hlim:es.length≤1000000000) :
  Spec Tryz.prog w0 204 [v,.int .i64 (i:Int),.int .i64 ((i:Int)+1)] h (fun r h'=>isRow 57 7 (es.eraseIdx i) r h'):=by
 obtain ⟨b,cap,spare,rfl,rfl,h2,h3,h4,h5⟩:=hr.nonempty (by intro e; subst e; simp at hi)
 intro w fr hst
 refine (deletePrp_spec w0 b cap es spare i hi h2 h1 h3 hlim w fr hst).mono ?_
 rintro e w' ⟨u,h',he,⟨rfl,z,hz,rfl⟩,hst'⟩
 have hl:(es.eraseIdx i).length=es.length - 1:=by rw [List.length_eraseIdx,if_pos hi]
 have hb:=isRow_block (E:=57) (size:=7) (b:=b) (cap:=cap) (spare:=z++spare) (xs:=es.eraseIdx i) (fun x hx=>h2 x (List.mem_of_mem_eraseIdx hx)) (by omega) h4 (by rw [List.length_append,hz,h5,hl,show cap - (es.length - 1)=(cap - es.length)+1 by omega]; omega)
 rw [hl] at hb
 exact ⟨_,_,he,hb,hst'⟩
theorem deleteBlk_spec (w0:World) (b cap:Nat) (es:List (List Value)) (spare:List Value) (i:Nat) (hi:i<es.length) (hes:∀ x∈es,x.length=2) (h1:∀ n∈es,∀ u∈n,u.oneCell'=true) (hcap:es.length≤cap) (hlim:es.length≤1000000000) :
  Spec Tryz.prog w0 241 [.slice (some ⟨b,0,none⟩) es.length cap,.int .i64 (i:Int),.int .i64 ((i:Int)+1)] (pt b (.cells (es.flatten++spare).toArray 153 (0,0)))
   (fun r h'=>r=.slice (some ⟨b,0,none⟩) (es.length - 1) cap∧∃ z:List Value,z.length=2∧h'=pt b (.cells ((es.eraseIdx i).flatten++(z++spare)).toArray 153 (0,0))):=by
 refine spec_of_hold Tryz.func241 G Tryz.ntmps241 Tryz.results241 G fun fr=>?_
 repeat (first|refine zF ?_|refine zB ?_|refine zE ?_|refine zK G G G ?_|refine L_len G G G ?_)
 refine yH G G (pv_slice_lhm (h:=i+1) G G G G (by omega) (by omega) hcap) ?_
 repeat (first|refine zF ?_|refine zB ?_|refine zE ?_|refine zK G G G ?_)
 refine L_no G G (pv_eql G G) (by omega) ?_
 repeat (first|refine zF ?_|refine zB ?_|refine zE ?_|refine zK G G G ?_|refine L_len G G G ?_|refine zP ?_|refine zI G ?_)
 have hrd:RdRow w0 (pt b (.cells (es.flatten++spare).toArray 153 (0,0))+fr) 2 (.slice (some ⟨b,0,none⟩) es.length cap) es:=rd_block hes
 have hrd2:=hrd.drop (l:=i+1) (by omega) hcap
 have e1:es.flatten++spare=(es.take i).flatten++((es.drop i).flatten++spare):=by rw [← List.append_assoc,← List.flatten_append,List.take_append_drop]
 have e2:(es.drop i).flatten=es[i]++(es.drop (i+1)).flatten:=by rw [List.drop_eq_getElem_cons hi,List.flatten_cons]
 have l1:(es.drop (i+1)).flatten.length=(es.length - (i+1))*2:=by rw [length_flat (fun x hx=>hes x (List.mem_of_mem_drop hx)),List.length_drop]
 have l2:es[i].length=2:=hes _ (List.getElem_mem hi)
 have l3:(es.drop i).flatten.length=(es.length - i)*2:=by rw [length_flat (fun x hx=>hes x (List.mem_of_mem_drop hx)),List.length_drop]
 rw [e1]
 rw [e1] at hrd2
 refine yC [6] [0,1,2,3,4,5,6,7] (by kernel_rfl) G (by kernel_rfl) (by kernel_rfl) ?_
 repeat (refine yI G G G G G ?_)
 refine yE G G G G (pv_slice_h G G (by omega)) ?_
 repeat (refine yI G G G G G ?_)
 refine yE G G G G (pv_slice_l (l:=i+1) G G (by omega)) ?_
 refine W_eff G G G G (ev_append_room (xs:=es.take i) G (by rw [List.length_take]; omega) G (fun x hx=>hes x (List.mem_of_mem_take hx)) hrd2 (fun n hn=>h1 n (List.mem_of_mem_drop hn)) (by rw [List.length_drop]; omega) (by rw [List.length_drop,List.length_append,l3]; omega)) .nil ?_
 rintro _ _ ⟨rfl,rfl⟩
 refine ⟨trivial,?_⟩
 rw [List.length_drop,← List.eraseIdx_eq_take_drop_succ,show i+(es.length - (i+1))=es.length - 1 by omega,List.drop_append_of_le_length (by rw [l3]; omega)]
 generalize hz4:List.drop ((es.length - (i+1))*2) (List.drop i es).flatten=z4
 have l4:z4.length=2:=by rw [← hz4,List.length_drop,l3]; omega
 repeat (first|refine yJ ?_|refine yI G G G G G ?_)
 repeat (first|refine zF ?_|refine zB ?_|refine zK G G G ?_|refine L_len G G G ?_)
 refine yH G G (pv_slice_lh (l:=es.length - 1) (h:=es.length) G G G (by omega) (by omega)) ?_
 rw [shiftA_some (l:=es.length - 1) (by omega)]
 have le:(es.eraseIdx i).flatten.length=(es.length - 1)*2:=by
  rw [length_flat (fun x hx=>hes x (List.mem_of_mem_eraseIdx hx)),List.length_eraseIdx,if_pos hi]
 refine L_eff G G (ev_clear G G G (by rw [List.length_append,List.length_append,le,l4]; omega)) ?_
 rintro _ _ rfl
 rw [show es.length - (es.length - 1)=1 by omega,show 0+(es.length - 1)*2=(es.eraseIdx i).flatten.length by rw [le]; omega]
 rw [splice_append z4 (List.replicate 1 (Value.cells _).toList).flatten (by rw [l4]; rfl) spare]
 repeat (first|refine zF ?_|refine zB ?_|refine zE ?_|refine zK G G G ?_|refine zM ?_)
 exact ⟨[_],_,⟨rfl,trivial⟩,⟨rfl,_,rfl,rfl⟩,rfl⟩
theorem deleteAtBlk_spec (w0:World) (es:List (List Value)) (v:Value) (h:Hp) (i:Nat) (hr:isRow 153 2 es v h) (hi:i<es.length) (h1:∀ n∈es,∀ u∈n,u.oneCell'=true) (hlim:es.length≤1000000000) :
  Spec Tryz.prog w0 241 [v,.int .i64 (i:Int),.int .i64 ((i:Int)+1)] h (fun r h'=>isRow 153 2 (es.eraseIdx i) r h'):=by
 obtain ⟨b,cap,spare,rfl,rfl,h2,h3,h4,h5⟩:=hr.nonempty (by intro e; subst e; simp at hi)
 intro w fr hst
 refine (deleteBlk_spec w0 b cap es spare i hi h2 h1 h3 hlim w fr hst).mono ?_
 rintro e w' ⟨u,h',he,⟨rfl,z,hz,rfl⟩,hst'⟩
 have hl:(es.eraseIdx i).length=es.length - 1:=by rw [List.length_eraseIdx,if_pos hi]
 have hb:=isRow_block (E:=153) (size:=2) (b:=b) (cap:=cap) (spare:=z++spare) (xs:=es.eraseIdx i) (fun x hx=>h2 x (List.mem_of_mem_eraseIdx hx)) (by omega) h4 (by rw [List.length_append,hz,h5,hl,show cap - (es.length - 1)=(cap - es.length)+1 by omega]; omega)
 rw [hl] at hb
 exact ⟨_,_,he,hb,hst'⟩
end Sl
end Go.Proofs.YtpkealohodeifaaGreat
namespace Go.Proofs.YtpkealohodeifaaGreat
open Go Go.RowKit
namespace Sl
set_option maxHeartbeats 4000000
set_option maxRecDepth 4000
attribute [local irreducible] Hold HoldL HoldW
theorem insertInt_spec (w0:World) (b cap bv i:Nat) (es:List (List Value)) (spare kc:List Value) (hi:i<es.length) (hes:∀ x∈es,x.length=1) (h1:∀ n∈es,∀ u∈n,u.oneCell'=true) (hcap:es.length≤cap) (hmax:cap≤maxLen) (hsp:spare.length=(cap - es.length)*1)
  (hk:kc.length=1) (hk1:∀ u∈kc,u.oneCell'=true) (hlim:es.length≤1000000000) :
  Spec Tryz.prog w0 229 [.slice (some ⟨b,0,none⟩) es.length cap,.int .i64 (i:Int),.slice (some ⟨bv,0,none⟩) 1 1]
   (pt b (.cells (es.flatten++spare).toArray 3 (0,0))+pt bv (.cells kc.toArray 3 (0,0)))
   (fun r h'=>isRow 3 1 (es.take i++kc::es.drop i) r h'):=by
 refine zN Tryz.func229 G Tryz.ntmps229 Tryz.results229 G fun fr=>?_
 repeat (first|refine zF ?_|refine zB ?_|refine zE ?_|refine zK G G G ?_)
 refine yH G G (pv_slice_l (l:=i) G G (by omega)) ?_
 repeat (first|refine zF ?_|refine zB ?_|refine zE ?_|refine zK G G G ?_|refine L_len G G G ?_)
 refine L_no G G (pv_eql G G) (by decide) ?_
 repeat (first|refine zF ?_|refine zB ?_|refine zE ?_|refine zK G G G ?_|refine L_len G G G ?_|refine zP ?_|refine zI G ?_)
 refine L_no G G (pv_eql G G) (by omega) ?_
 repeat (first|refine zF ?_|refine zB ?_|refine zE ?_|refine zK G G G ?_|refine zP ?_|refine zI G ?_|refine L_add G G (by omega) (by omega) G G ?_)
 refine yH G G (pv_cap G) ?_
 have eflat:es.flatten=(es.take i).flatten++(es.drop i).flatten:=by rw [← List.flatten_append,List.take_append_drop]
 have lA:(es.take i).flatten.length=i*1:=by rw [length_flat (fun x hx=>hes x (List.mem_of_mem_take hx)),List.length_take,Nat.min_eq_left (by omega)]
 have lD:(es.drop i).flatten.length=(es.length - i)*1:=by rw [length_flat (fun x hx=>hes x (List.mem_of_mem_drop hx)),List.length_drop]
 have hkc1:∀ n∈[kc],∀ u∈n,u.oneCell'=true:=by intro n hn; rw [List.mem_singleton] at hn; subst hn; exact hk1
 have hall:∀ x∈es.take i++kc::es.drop i,x.length=1:=by
  intro x hx
  rcases List.mem_append.1 hx with hx|hx
  ·exact hes x (List.mem_of_mem_take hx)
  ·rcases List.mem_cons.1 hx with rfl|hx
   ·exact hk
   ·exact hes x (List.mem_of_mem_drop hx)
 have hlen:(es.take i++kc::es.drop i).length=es.length+1:=by simp; omega
 refine yG G G (pv_gtr G G) (fun hg=>?_) (fun hg=>?_)
 ·repeat (first|refine zF ?_|refine zB ?_|refine zE ?_|refine zK G G G ?_|refine zJ G ?_)
  refine yH G G (pv_slice_h (m:=i) G G (by omega)) ?_
  repeat (first|refine zK G G G ?_|refine L_add G G (by omega) (by omega) G G ?_|refine L_sub G G (by omega) (by omega) G G ?_)
  rw [show (es.length:Int)+((1:Nat):Int) - (i:Int)=((es.length+1 - i:Nat):Int) by omega]
  refine L_eff G G (ev_append_zeros (olds:=(es.take i).flatten) G G (by rw [eflat,List.append_assoc,← lA,List.take_left]) (by rw [List.length_append,eflat,List.length_append,lA]; omega) (by omega) G G (by omega) G (by omega)) ?_
  rintro _ _ ⟨b2,cap2,spare2,rfl,hc2,hmax2,hsp2,rfl⟩
  rw [show i+(es.length+1 - i)=es.length+1 by omega] at *
  obtain ⟨D1,D2,hD,l1,l2⟩:∃ D1 D2,(List.replicate (es.length+1 - i) (Value.cells (.int .i64 0)).toList).flatten=D1++D2∧D1.length=1∧D2.length=(es.length - i)*1 :=
   ⟨_,_,(List.take_append_drop 1 _).symm,by simp [Value.cells]; omega,by simp [Value.cells]; omega⟩
  rw [hD]
  repeat (first|refine zF ?_|refine zB ?_|refine zE ?_|refine zK G G G ?_)
  refine yH G G (pv_slice_l (l:=i) G G (by omega)) ?_
  rw [shiftA_some (b:=b2) (l:=i) (cap:=cap2) (by omega)]
  repeat (refine zK G G G ?_)
  refine L_eff G G (ev_copy (n:=1) G G (rd_one hk) (fun n hn=>hkc1 n (List.mem_of_mem_take hn)) (Nat.min_eq_left (by simp only [List.length_singleton]; omega)) (by omega) (by omega) (by simp only [List.length_append,lA,l1,l2]; omega)) ?_
  rintro _ _ ⟨rfl,rfl⟩
  have c1:((es.take i).flatten++(D1++D2)++spare2).take (0+i*1)++([kc].take 1).flatten++((es.take i).flatten++(D1++D2)++spare2).drop (0+i*1+1*1)=(es.take i).flatten++kc++D2++spare2:=by
   have:=copy_at (A:=(es.take i).flatten) (D:=D1) (E:=D2++spare2) (F:=kc) lA l1
   simpa [List.append_assoc] using this
  rw [c1]
  have hrd:RdRow w0 (pt b2 (.cells ((es.take i).flatten++kc++D2++spare2).toArray 3 (0,0))+(pt b (.cells (es.flatten++spare).toArray 3 (0,0))+pt bv (.cells kc.toArray 3 (0,0))+fr)) 1 (.slice (some ⟨b,0,none⟩) es.length cap) es:=rd_block hes
  have hrd2:=hrd.drop (l:=i) (by omega) hcap
  rw [shiftA_some (b:=b) (l:=i) (cap:=cap) (by omega)] at hrd2
  repeat (first|refine zF ?_|refine zE ?_)
  refine yC [8] [0,1,2,3,4,5,6,7,8] (by kernel_rfl) G (by kernel_rfl) (by kernel_rfl) ?_
  repeat (first|refine yI G G G G G ?_|refine yE G G G G (pv_add G G (by omega) (by omega)) ?_)
  refine yE G G G G (pv_slice_l (l:=i+1) G G (by omega)) ?_
  rw [shiftA_some (b:=b2) (l:=i+1) (cap:=cap2) (by omega)]
  repeat (refine yI G G G G G ?_)
  refine yE G G G G (pv_slice_l (l:=i) G G (by omega)) ?_
  rw [shiftA_some (b:=b) (l:=i) (cap:=cap) (by omega)]
  refine W_eff G G G G (ev_copy (n:=es.length - i) G G hrd2 (fun n hn=>h1 n (List.mem_of_mem_drop (List.mem_of_mem_take hn))) (by rw [List.length_drop]; exact Nat.min_eq_left (by omega)) (by omega) (by omega) (by simp only [List.length_append,lA,hk,l2]; omega)) (Kept.all _) ?_
  rintro _ _ ⟨rfl,rfl⟩
  refine ⟨trivial,?_⟩
  have c2:((es.take i).flatten++kc++D2++spare2).take (0+(i+1)*1)++((es.drop i).take (es.length - i)).flatten++((es.take i).flatten++kc++D2++spare2).drop (0+(i+1)*1+(es.length - i)*1)=(es.take i++kc::es.drop i).flatten++spare2:=by
   rw [show (es.drop i).take (es.length - i)=es.drop i from List.take_of_length_le (by rw [List.length_drop]; omega)]
   have:=copy_at (A:=(es.take i).flatten++kc) (D:=D2) (E:=spare2) (F:=(es.drop i).flatten) (o:=0+(i+1)*1) (by rw [List.length_append,lA,hk]; omega) l2
   rw [this,List.flatten_append,List.flatten_cons,List.append_assoc,List.append_assoc,List.append_assoc,List.append_assoc]
  rw [c2]
  repeat (refine yJ ?_)
  repeat (first|refine zF ?_|refine zB ?_|refine zE ?_|refine zK G G G ?_|refine zM ?_)
  have hrow:=isRow_block (E:=3) (b:=b2) (cap:=cap2) (spare:=spare2) hall (by rw [hlen]; omega) hmax2 (by rw [hlen]; exact hsp2)
  rw [hlen] at hrow
  exact ⟨[_],_,_,⟨rfl,trivial⟩,hrow,yK.out⟩
 ·repeat (first|refine zF ?_|refine zB ?_|refine zE ?_|refine zK G G G ?_|refine zP ?_|refine zI G ?_|refine L_add G G (by omega) (by omega) G G ?_)
  refine yH G G (pv_slice_h (m:=es.length+1) G G (by omega)) ?_
  repeat (first|refine zF ?_|refine zB ?_|refine zE ?_|refine zK G G G ?_|refine L_add G G (by omega) (by omega) G G ?_)
  obtain ⟨S1,S2,hS,l1,l2⟩:∃ S1 S2,spare=S1++S2∧S1.length=1∧S2.length=(cap - (es.length+1))*1 :=
   ⟨_,_,(List.take_append_drop 1 spare).symm,by rw [List.length_take,hsp]; omega,by rw [List.length_drop,hsp]; omega⟩
  subst hS
  refine yH G G (pv_slice_l (l:=i+1) G G (by omega)) ?_
  rw [shiftA_some (b:=b) (l:=i+1) (cap:=cap) (by omega)]
  refine L_eff G G (ev_overlaps (t:=29) (tR:=4) (c1:=kc) (c2:=es.flatten++(S1++S2)) (e1:=3) (e2:=3) Tryz.func259 (by kernel_rfl) (by kernel_rfl) (by kernel_rfl) (by kernel_rfl) G G (by simp only [List.length_append,l1]; omega)) ?_
  rintro _ _ ⟨rfl,rfl⟩
  repeat (first|refine zF ?_|refine zE ?_|refine zK G G G ?_|refine zJ G ?_)
  have hes':∀ x∈es++[S1],x.length=1:=by
   intro x hx
   rcases List.mem_append.1 hx with hx|hx
   ·exact hes x hx
   ·rw [List.mem_singleton] at hx; subst hx; exact l1
  have ecells:es.flatten++(S1++S2)=(es++[S1]).flatten++S2:=by simp
  rw [ecells]
  have hrd:RdRow w0 (pt b (.cells ((es++[S1]).flatten++S2).toArray 3 (0,0))+pt bv (.cells kc.toArray 3 (0,0))+fr) 1 (.slice (some ⟨b,0,none⟩) (es++[S1]).length cap) (es++[S1]):=rd_block hes'
  rw [show (es++[S1]).length=es.length+1 by simp] at hrd
  have hrd2:=hrd.drop (l:=i) (by omega) (by omega)
  rw [shiftA_some (b:=b) (l:=i) (cap:=cap) (by omega)] at hrd2
  have hd1:(es++[S1]).drop i=es.drop i++[S1]:=List.drop_append_of_le_length (by omega)
  rw [hd1] at hrd2
  have h1':∀ n∈(es.drop i++[S1]).take (es.length - i),∀ u∈n,u.oneCell'=true:=by
   rw [List.take_left' (by rw [List.length_drop])]
   exact fun n hn=>h1 n (List.mem_of_mem_drop hn)
  refine yC [8] [0,1,2,3,4,5,6,7,8] (by kernel_rfl) G (by kernel_rfl) (by kernel_rfl) ?_
  repeat (first|refine yI G G G G G ?_|refine yE G G G G (pv_add G G (by omega) (by omega)) ?_)
  refine yE G G G G (pv_slice_l (l:=i+1) G G (by omega)) ?_
  rw [shiftA_some (b:=b) (l:=i+1) (cap:=cap) (by omega)]
  repeat (refine yI G G G G G ?_)
  refine yE G G G G (pv_slice_l (l:=i) G G (by omega)) ?_
  rw [shiftA_some (b:=b) (l:=i) (cap:=cap) (by omega)]
  refine W_eff G G G G (ev_copy (n:=es.length - i) G G hrd2 h1' (by rw [List.length_append,List.length_drop,List.length_singleton]; show min _ _=_; omega) (by omega) (by omega) (by simp only [List.length_append,List.flatten_append,eflat,lA,lD,l1,l2,List.flatten_cons,List.flatten_nil,List.length_nil]; omega)) (Kept.all _) ?_
  rintro _ _ ⟨rfl,rfl⟩
  refine ⟨trivial,?_⟩
  have lA':(es.take (i+1)).flatten.length=0+(i+1)*1:=by rw [length_flat (fun x hx=>hes x (List.mem_of_mem_take hx)),List.length_take,Nat.min_eq_left (by omega)]; omega
  have lD':((es.drop (i+1)).flatten++S1).length=(es.length - i)*1:=by rw [List.length_append,length_flat (fun x hx=>hes x (List.mem_of_mem_drop hx)),List.length_drop,l1]; omega
  have lI:es[i].length=1:=hes _ (List.getElem_mem hi)
  have esp:(es.take (i+1)).flatten=(es.take i).flatten++es[i]:=by rw [List.take_succ_eq_append_getElem hi,List.flatten_append]; simp
  have c1:((es++[S1]).flatten++S2).take (0+(i+1)*1)++((es.drop i++[S1]).take (es.length - i)).flatten++((es++[S1]).flatten++S2).drop (0+(i+1)*1+(es.length - i)*1)=(es.take i).flatten++es[i]++((es.drop i).flatten++S2):=by
   have e0:(es++[S1]).flatten++S2=(es.take (i+1)).flatten++((es.drop (i+1)).flatten++S1)++S2:=by
    have e3:es.flatten=(es.take (i+1)).flatten++(es.drop (i+1)).flatten:=by rw [← List.flatten_append,List.take_append_drop]
    rw [List.flatten_append,e3]; simp [List.append_assoc]
   rw [e0,List.take_left' (by rw [List.length_drop]:(es.drop i).length=es.length - i),copy_at lA' lD',esp,List.append_assoc]
  rw [c1]
  repeat (refine yJ ?_)
  repeat (first|refine zF ?_|refine zB ?_|refine zK G G G ?_)
  refine yH G G (pv_slice_l (l:=i) G G (by omega)) ?_
  rw [shiftA_some (b:=b) (l:=i) (cap:=cap) (by omega)]
  repeat (refine zK G G G ?_)
  refine L_eff G G (ev_copy (n:=1) G G (rd_one hk) (fun n hn=>hkc1 n (List.mem_of_mem_take hn)) (Nat.min_eq_left (by simp only [List.length_singleton]; omega)) (by omega) (by omega) (by simp only [List.length_append,lA,lI]; omega)) ?_
  rintro _ _ ⟨rfl,rfl⟩
  have c2:((es.take i).flatten++es[i]++((es.drop i).flatten++S2)).take (0+i*1)++([kc].take 1).flatten++((es.take i).flatten++es[i]++((es.drop i).flatten++S2)).drop (0+i*1+1*1)=(es.take i++kc::es.drop i).flatten++S2:=by
   have:=copy_at (A:=(es.take i).flatten) (D:=es[i]) (E:=(es.drop i).flatten++S2) (F:=kc) (o:=0+i*1) (m:=1*1) (by rw [lA]; omega) (by rw [lI])
   rw [show ([kc].take 1).flatten=kc by simp,this,List.flatten_append,List.flatten_cons,List.append_assoc,List.append_assoc,List.append_assoc]
  rw [c2]
  repeat (first|refine zF ?_|refine zB ?_|refine zE ?_|refine zK G G G ?_|refine zM ?_)
  have hrow:=isRow_block (E:=3) (b:=b) (cap:=cap) (spare:=S2) hall (by rw [hlen]; omega) hmax (by rw [hlen]; exact l2)
  rw [hlen] at hrow
  exact ⟨[_],_,_,⟨rfl,trivial⟩,hrow,yK.out⟩
theorem insertAtInt_spec (w0:World) (es:List (List Value)) (v:Value) (h:Hp) (bv i:Nat) (kc:List Value) (hr:isRow 3 1 es v h) (hi:i≤es.length) (h1:∀ n∈es,∀ u∈n,u.oneCell'=true)
  (hk:kc.length=1) (hk1:∀ u∈kc,u.oneCell'=true) (hlim:es.length≤1000000000) :
  Spec Tryz.prog w0 229 [v,.int .i64 (i:Int),.slice (some ⟨bv,0,none⟩) 1 1] (h+pt bv (.cells kc.toArray 3 (0,0)))
   (fun r h'=>isRow 3 1 (es.take i++kc::es.drop i) r h'):=by
 rcases Nat.lt_or_ge i es.length with hlt|hge
 ·obtain ⟨b,cap,spare,rfl,rfl,h2,h3,h4,h5⟩:=hr.nonempty (by intro e; subst e; simp at hlt)
  exact insertInt_spec w0 b cap bv i es spare kc hlt h2 h1 h3 h4 h5 hk hk1 hlim
 ·obtain rfl:i=es.length:=by omega
  obtain ⟨a,c,rfl⟩:=hr.shape
  have hkc1:∀ n∈[kc],∀ u∈n,u.oneCell'=true:=by intro n hn; rw [List.mem_singleton] at hn; subst hn; exact hk1
  refine zN Tryz.func229 G Tryz.ntmps229 Tryz.results229 G fun fr=>?_
  repeat (first|refine zF ?_|refine zB ?_|refine zE ?_|refine zK G G G ?_)
  refine yH G G (pv_slice_l (l:=es.length) G G (by omega)) ?_
  repeat (first|refine zF ?_|refine zB ?_|refine zE ?_|refine zK G G G ?_|refine L_len G G G ?_)
  refine L_no G G (pv_eql G G) (by decide) ?_
  repeat (first|refine zF ?_|refine zB ?_|refine zE ?_|refine zK G G G ?_|refine L_len G G G ?_|refine zP ?_|refine zI G ?_)
  refine L_yes G G (pv_eql G G) G ?_
  repeat (first|refine zF ?_|refine zB ?_|refine zE ?_|refine zK G G G ?_|refine zJ G ?_)
  refine L_eff G G (ev_append (xs:=es) (h:=h) (ns:=[kc]) G G hr (rd_one hk) hkc1 G G G (by simp only [List.length_singleton]; omega)) ?_
  rintro v' _ ⟨h',hr',rfl⟩
  repeat (first|refine zE ?_|refine zK G G G ?_|refine zM ?_)
  rw [show es++[kc]=es.take es.length++kc::es.drop es.length by simp] at hr'
  exact ⟨[_],h',_,⟨rfl,trivial⟩,hr',yK.out⟩
theorem insertPrp_spec (w0:World) (b cap bv i:Nat) (es:List (List Value)) (spare kc:List Value) (hi:i<es.length) (hes:∀ x∈es,x.length=7) (h1:∀ n∈es,∀ u∈n,u.oneCell'=true) (hcap:es.length≤cap) (hmax:cap≤maxLen) (hsp:spare.length=(cap - es.length)*7)
  (hk:kc.length=7) (hk1:∀ u∈kc,u.oneCell'=true) (hlim:es.length≤1000000000) :
  Spec Tryz.prog w0 201 [.slice (some ⟨b,0,none⟩) es.length cap,.int .i64 (i:Int),.slice (some ⟨bv,0,none⟩) 1 1]
   (pt b (.cells (es.flatten++spare).toArray 57 (0,0))+pt bv (.cells kc.toArray 57 (0,0)))
   (fun r h'=>isRow 57 7 (es.take i++kc::es.drop i) r h'):=by
 refine zN Tryz.func201 G Tryz.ntmps201 Tryz.results201 G fun fr=>?_
 repeat (first|refine zF ?_|refine zB ?_|refine zE ?_|refine zK G G G ?_)
 refine yH G G (pv_slice_l (l:=i) G G (by omega)) ?_
 repeat (first|refine zF ?_|refine zB ?_|refine zE ?_|refine zK G G G ?_|refine L_len G G G ?_)
 refine L_no G G (pv_eql G G) (by decide) ?_
 repeat (first|refine zF ?_|refine zB ?_|refine zE ?_|refine zK G G G ?_|refine L_len G G G ?_|refine zP ?_|refine zI G ?_)
 refine L_no G G (pv_eql G G) (by omega) ?_
 repeat (first|refine zF ?_|refine zB ?_|refine zE ?_|refine zK G G G ?_|refine zP ?_|refine zI G ?_|refine L_add G G (by omega) (by omega) G G ?_)
 refine yH G G (pv_cap G) ?_
 have eflat:es.flatten=(es.take i).flatten++(es.drop i).flatten:=by rw [← List.flatten_append,List.take_append_drop]
 have lA:(es.take i).flatten.length=i*7:=by rw [length_flat (fun x hx=>hes x (List.mem_of_mem_take hx)),List.length_take,Nat.min_eq_left (by omega)]
 have lD:(es.drop i).flatten.length=(es.length - i)*7:=by rw [length_flat (fun x hx=>hes x (List.mem_of_mem_drop hx)),List.length_drop]
 have hkc1:∀ n∈[kc],∀ u∈n,u.oneCell'=true:=by intro n hn; rw [List.mem_singleton] at hn; subst hn; exact hk1
 have hall:∀ x∈es.take i++kc::es.drop i,x.length=7:=by
  intro x hx
  rcases List.mem_append.1 hx with hx|hx
  ·exact hes x (List.mem_of_mem_take hx)
  ·rcases List.mem_cons.1 hx with rfl|hx
   ·exact hk
   ·exact hes x (List.mem_of_mem_drop hx)
 have hlen:(es.take i++kc::es.drop i).length=es.length+1:=by simp; omega
 refine yG G G (pv_gtr G G) (fun hg=>?_) (fun hg=>?_)
 ·repeat (first|refine zF ?_|refine zB ?_|refine zE ?_|refine zK G G G ?_|refine zJ G ?_)
  refine yH G G (pv_slice_h (m:=i) G G (by omega)) ?_
  repeat (first|refine zK G G G ?_|refine L_add G G (by omega) (by omega) G G ?_|refine L_sub G G (by omega) (by omega) G G ?_)
  rw [show (es.length:Int)+((1:Nat):Int) - (i:Int)=((es.length+1 - i:Nat):Int) by omega]
  refine L_eff G G (ev_append_zeros (olds:=(es.take i).flatten) G G (by rw [eflat,List.append_assoc,← lA,List.take_left]) (by rw [List.length_append,eflat,List.length_append,lA]; omega) (by omega) G G (by omega) G (by omega)) ?_
  rintro _ _ ⟨b2,cap2,spare2,rfl,hc2,hmax2,hsp2,rfl⟩
  rw [show i+(es.length+1 - i)=es.length+1 by omega] at *
  obtain ⟨D1,D2,hD,l1,l2⟩:∃ D1 D2,(List.replicate (es.length+1 - i) (Value.cells (.agg #[.int .i64 0,.int .i64 0,.int .i64 0,.int .i64 0,.int .i64 0,.slice none 0 0,.slice none 0 0])).toList).flatten=D1++D2∧D1.length=7∧D2.length=(es.length - i)*7 :=
   ⟨_,_,(List.take_append_drop 7 _).symm,by simp [Value.cells]; omega,by simp [Value.cells]; omega⟩
  rw [hD]
  repeat (first|refine zF ?_|refine zB ?_|refine zE ?_|refine zK G G G ?_)
  refine yH G G (pv_slice_l (l:=i) G G (by omega)) ?_
  rw [shiftA_some (b:=b2) (l:=i) (cap:=cap2) (by omega)]
  repeat (refine zK G G G ?_)
  refine L_eff G G (ev_copy (n:=1) G G (rd_one hk) (fun n hn=>hkc1 n (List.mem_of_mem_take hn)) (Nat.min_eq_left (by simp only [List.length_singleton]; omega)) (by omega) (by omega) (by simp only [List.length_append,lA,l1,l2]; omega)) ?_
  rintro _ _ ⟨rfl,rfl⟩
  have c1:((es.take i).flatten++(D1++D2)++spare2).take (0+i*7)++([kc].take 1).flatten++((es.take i).flatten++(D1++D2)++spare2).drop (0+i*7+1*7)=(es.take i).flatten++kc++D2++spare2:=by
   have:=copy_at (A:=(es.take i).flatten) (D:=D1) (E:=D2++spare2) (F:=kc) lA l1
   simpa [List.append_assoc] using this
  rw [c1]
  have hrd:RdRow w0 (pt b2 (.cells ((es.take i).flatten++kc++D2++spare2).toArray 57 (0,0))+(pt b (.cells (es.flatten++spare).toArray 57 (0,0))+pt bv (.cells kc.toArray 57 (0,0))+fr)) 7 (.slice (some ⟨b,0,none⟩) es.length cap) es:=rd_block hes
  have hrd2:=hrd.drop (l:=i) (by omega) hcap
  rw [shiftA_some (b:=b) (l:=i) (cap:=cap) (by omega)] at hrd2
  repeat (first|refine zF ?_|refine zE ?_)
  refine yC [8] [0,1,2,3,4,5,6,7,8] (by kernel_rfl) G (by kernel_rfl) (by kernel_rfl) ?_
  repeat (first|refine yI G G G G G ?_|refine yE G G G G (pv_add G G (by omega) (by omega)) ?_)
  refine yE G G G G (pv_slice_l (l:=i+1) G G (by omega)) ?_
  rw [shiftA_some (b:=b2) (l:=i+1) (cap:=cap2) (by omega)]
  repeat (refine yI G G G G G ?_)
  refine yE G G G G (pv_slice_l (l:=i) G G (by omega)) ?_
  rw [shiftA_some (b:=b) (l:=i) (cap:=cap) (by omega)]
  refine W_eff G G G G (ev_copy (n:=es.length - i) G G hrd2 (fun n hn=>h1 n (List.mem_of_mem_drop (List.mem_of_mem_take hn))) (by rw [List.length_drop]; exact Nat.min_eq_left (by omega)) (by omega) (by omega) (by simp only [List.length_append,lA,hk,l2]; omega)) (Kept.all _) ?_
  rintro _ _ ⟨rfl,rfl⟩
  refine ⟨trivial,?_⟩
  have c2:((es.take i).flatten++kc++D2++spare2).take (0+(i+1)*7)++((es.drop i).take (es.length - i)).flatten++((es.take i).flatten++kc++D2++spare2).drop (0+(i+1)*7+(es.length - i)*7)=(es.take i++kc::es.drop i).flatten++spare2:=by
   rw [show (es.drop i).take (es.length - i)=es.drop i from List.take_of_length_le (by rw [List.length_drop]; omega)]
   have:=copy_at (A:=(es.take i).flatten++kc) (D:=D2) (E:=spare2) (F:=(es.drop i).flatten) (o:=0+(i+1)*7) (by rw [List.length_append,lA,hk]; omega) l2
   rw [this,List.flatten_append,List.flatten_cons,List.append_assoc,List.append_assoc,List.append_assoc,List.append_assoc]
  rw [c2]
  repeat (refine yJ ?_)
  repeat (first|refine zF ?_|refine zB ?_|refine zE ?_|refine zK G G G ?_|refine zM ?_)
  have hrow:=isRow_block (E:=57) (b:=b2) (cap:=cap2) (spare:=spare2) hall (by rw [hlen]; omega) hmax2 (by rw [hlen]; exact hsp2)
  rw [hlen] at hrow
  exact ⟨[_],_,_,⟨rfl,trivial⟩,hrow,yK.out⟩
 ·repeat (first|refine zF ?_|refine zB ?_|refine zE ?_|refine zK G G G ?_|refine zP ?_|refine zI G ?_|refine L_add G G (by omega) (by omega) G G ?_)
  refine yH G G (pv_slice_h (m:=es.length+1) G G (by omega)) ?_
  repeat (first|refine zF ?_|refine zB ?_|refine zE ?_|refine zK G G G ?_|refine L_add G G (by omega) (by omega) G G ?_)
  obtain ⟨S1,S2,hS,l1,l2⟩:∃ S1 S2,spare=S1++S2∧S1.length=7∧S2.length=(cap - (es.length+1))*7 :=
   ⟨_,_,(List.take_append_drop 7 spare).symm,by rw [List.length_take,hsp]; omega,by rw [List.length_drop,hsp]; omega⟩
  subst hS
  refine yH G G (pv_slice_l (l:=i+1) G G (by omega)) ?_
  rw [shiftA_some (b:=b) (l:=i+1) (cap:=cap) (by omega)]
  refine L_eff G G (ev_overlaps (t:=28) (tR:=4) (c1:=kc) (c2:=es.flatten++(S1++S2)) (e1:=57) (e2:=57) Tryz.func238 (by kernel_rfl) (by kernel_rfl) (by kernel_rfl) (by kernel_rfl) G G (by simp only [List.length_append,l1]; omega)) ?_
  rintro _ _ ⟨rfl,rfl⟩
  repeat (first|refine zF ?_|refine zE ?_|refine zK G G G ?_|refine zJ G ?_)
  have hes':∀ x∈es++[S1],x.length=7:=by
   intro x hx
   rcases List.mem_append.1 hx with hx|hx
   ·exact hes x hx
   ·rw [List.mem_singleton] at hx; subst hx; exact l1
  have ecells:es.flatten++(S1++S2)=(es++[S1]).flatten++S2:=by simp
  rw [ecells]
  have hrd:RdRow w0 (pt b (.cells ((es++[S1]).flatten++S2).toArray 57 (0,0))+pt bv (.cells kc.toArray 57 (0,0))+fr) 7 (.slice (some ⟨b,0,none⟩) (es++[S1]).length cap) (es++[S1]):=rd_block hes'
  rw [show (es++[S1]).length=es.length+1 by simp] at hrd
  have hrd2:=hrd.drop (l:=i) (by omega) (by omega)
  rw [shiftA_some (b:=b) (l:=i) (cap:=cap) (by omega)] at hrd2
  have hd1:(es++[S1]).drop i=es.drop i++[S1]:=List.drop_append_of_le_length (by omega)
  rw [hd1] at hrd2
  have h1':∀ n∈(es.drop i++[S1]).take (es.length - i),∀ u∈n,u.oneCell'=true:=by
   rw [List.take_left' (by rw [List.length_drop])]
   exact fun n hn=>h1 n (List.mem_of_mem_drop hn)
  refine yC [8] [0,1,2,3,4,5,6,7,8] (by kernel_rfl) G (by kernel_rfl) (by kernel_rfl) ?_
  repeat (first|refine yI G G G G G ?_|refine yE G G G G (pv_add G G (by omega) (by omega)) ?_)
  refine yE G G G G (pv_slice_l (l:=i+1) G G (by omega)) ?_
  rw [shiftA_some (b:=b) (l:=i+1) (cap:=cap) (by omega)]
  repeat (refine yI G G G G G ?_)
  refine yE G G G G (pv_slice_l (l:=i) G G (by omega)) ?_
  rw [shiftA_some (b:=b) (l:=i) (cap:=cap) (by omega)]
  refine W_eff G G G G (ev_copy (n:=es.length - i) G G hrd2 h1' (by rw [List.length_append,List.length_drop,List.length_singleton]; show min _ _=_; omega) (by omega) (by omega) (by simp only [List.length_append,List.flatten_append,eflat,lA,lD,l1,l2,List.flatten_cons,List.flatten_nil,List.length_nil]; omega)) (Kept.all _) ?_
  rintro _ _ ⟨rfl,rfl⟩
  refine ⟨trivial,?_⟩
  have lA':(es.take (i+1)).flatten.length=0+(i+1)*7:=by rw [length_flat (fun x hx=>hes x (List.mem_of_mem_take hx)),List.length_take,Nat.min_eq_left (by omega)]; omega
  have lD':((es.drop (i+1)).flatten++S1).length=(es.length - i)*7:=by rw [List.length_append,length_flat (fun x hx=>hes x (List.mem_of_mem_drop hx)),List.length_drop,l1]; omega
  have lI:es[i].length=7:=hes _ (List.getElem_mem hi)
  have esp:(es.take (i+1)).flatten=(es.take i).flatten++es[i]:=by rw [List.take_succ_eq_append_getElem hi,List.flatten_append]; simp
  have c1:((es++[S1]).flatten++S2).take (0+(i+1)*7)++((es.drop i++[S1]).take (es.length - i)).flatten++((es++[S1]).flatten++S2).drop (0+(i+1)*7+(es.length - i)*7)=(es.take i).flatten++es[i]++((es.drop i).flatten++S2):=by
   have e0:(es++[S1]).flatten++S2=(es.take (i+1)).flatten++((es.drop (i+1)).flatten++S1)++S2:=by
    have e3:es.flatten=(es.take (i+1)).flatten++(es.drop (i+1)).flatten:=by rw [← List.flatten_append,List.take_append_drop]
    rw [List.flatten_append,e3]; simp [List.append_assoc]
   rw [e0,List.take_left' (by rw [List.length_drop]:(es.drop i).length=es.length - i),copy_at lA' lD',esp,List.append_assoc]
  rw [c1]
  repeat (refine yJ ?_)
  repeat (first|refine zF ?_|refine zB ?_|refine zK G G G ?_)
  refine yH G G (pv_slice_l (l:=i) G G (by omega)) ?_
  rw [shiftA_some (b:=b) (l:=i) (cap:=cap) (by omega)]
  repeat (refine zK G G G ?_)
  refine L_eff G G (ev_copy (n:=1) G G (rd_one hk) (fun n hn=>hkc1 n (List.mem_of_mem_take hn)) (Nat.min_eq_left (by simp only [List.length_singleton]; omega)) (by omega) (by omega) (by simp only [List.length_append,lA,lI]; omega)) ?_
  rintro _ _ ⟨rfl,rfl⟩
  have c2:((es.take i).flatten++es[i]++((es.drop i).flatten++S2)).take (0+i*7)++([kc].take 1).flatten++((es.take i).flatten++es[i]++((es.drop i).flatten++S2)).drop (0+i*7+1*7)=(es.take i++kc::es.drop i).flatten++S2:=by
   have:=copy_at (A:=(es.take i).flatten) (D:=es[i]) (E:=(es.drop i).flatten++S2) (F:=kc) (o:=0+i*7) (m:=1*7) (by rw [lA]; omega) (by rw [lI])
   rw [show ([kc].take 1).flatten=kc by simp,this,List.flatten_append,List.flatten_cons,List.append_assoc,List.append_assoc,List.append_assoc]
  rw [c2]
  repeat (first|refine zF ?_|refine zB ?_|refine zE ?_|refine zK G G G ?_|refine zM ?_)
  have hrow:=isRow_block (E:=57) (b:=b) (cap:=cap) (spare:=S2) hall (by rw [hlen]; omega) hmax (by rw [hlen]; exact l2)
  rw [hlen] at hrow
  exact ⟨[_],_,_,⟨rfl,trivial⟩,hrow,yK.out⟩
theorem insertAtPrp_spec (w0:World) (es:List (List Value)) (v:Value) (h:Hp) (bv i:Nat) (kc:List Value) (hr:isRow 57 7 es v h) (hi:i≤es.length) (h1:∀ n∈es,∀ u∈n,u.oneCell'=true)
  (hk:kc.length=7) (hk1:∀ u∈kc,u.oneCell'=true) (hlim:es.length≤1000000000) :
  Spec Tryz.prog w0 201 [v,.int .i64 (i:Int),.slice (some ⟨bv,0,none⟩) 1 1] (h+pt bv (.cells kc.toArray 57 (0,0)))
   (fun r h'=>isRow 57 7 (es.take i++kc::es.drop i) r h'):=by
 rcases Nat.lt_or_ge i es.length with hlt|hge
 ·obtain ⟨b,cap,spare,rfl,rfl,h2,h3,h4,h5⟩:=hr.nonempty (by intro e; subst e; simp at hlt)
  exact insertPrp_spec w0 b cap bv i es spare kc hlt h2 h1 h3 h4 h5 hk hk1 hlim
 ·obtain rfl:i=es.length:=by omega
  obtain ⟨a,c,rfl⟩:=hr.shape
  have hkc1:∀ n∈[kc],∀ u∈n,u.oneCell'=true:=by intro n hn; rw [List.mem_singleton] at hn; subst hn; exact hk1
  refine zN Tryz.func201 G Tryz.ntmps201 Tryz.results201 G fun fr=>?_
  repeat (first|refine zF ?_|refine zB ?_|refine zE ?_|refine zK G G G ?_)
  refine yH G G (pv_slice_l (l:=es.length) G G (by omega)) ?_
  repeat (first|refine zF ?_|refine zB ?_|refine zE ?_|refine zK G G G ?_|refine L_len G G G ?_)
  refine L_no G G (pv_eql G G) (by decide) ?_
  repeat (first|refine zF ?_|refine zB ?_|refine zE ?_|refine zK G G G ?_|refine L_len G G G ?_|refine zP ?_|refine zI G ?_)
  refine L_yes G G (pv_eql G G) G ?_
  repeat (first|refine zF ?_|refine zB ?_|refine zE ?_|refine zK G G G ?_|refine zJ G ?_)
  refine L_eff G G (ev_append (xs:=es) (h:=h) (ns:=[kc]) G G hr (rd_one hk) hkc1 G G G (by simp only [List.length_singleton]; omega)) ?_
  rintro v' _ ⟨h',hr',rfl⟩
  repeat (first|refine zE ?_|refine zK G G G ?_|refine zM ?_)
  rw [show es++[kc]=es.take es.length++kc::es.drop es.length by simp] at hr'
  exact ⟨[_],h',_,⟨rfl,trivial⟩,hr',yK.out⟩
theorem insertBlk_spec (w0:World) (b cap bv i:Nat) (es:List (List Value)) (spare kc:List Value) (hi:i<es.length) (hes:∀ x∈es,x.length=2) (h1:∀ n∈es,∀ u∈n,u.oneCell'=true) (hcap:es.length≤cap) (hmax:cap≤maxLen) (hsp:spare.length=(cap - es.length)*2)
  (hk:kc.length=2) (hk1:∀ u∈kc,u.oneCell'=true) (hlim:es.length≤1000000000) :
  Spec Tryz.prog w0 243 [.slice (some ⟨b,0,none⟩) es.length cap,.int .i64 (i:Int),.slice (some ⟨bv,0,none⟩) 1 1]
   (pt b (.cells (es.flatten++spare).toArray 153 (0,0))+pt bv (.cells kc.toArray 153 (0,0)))
   (fun r h'=>isRow 153 2 (es.take i++kc::es.drop i) r h'):=by
 refine zN Tryz.func243 G Tryz.ntmps243 Tryz.results243 G fun fr=>?_
 repeat (first|refine zF ?_|refine zB ?_|refine zE ?_|refine zK G G G ?_)
 refine yH G G (pv_slice_l (l:=i) G G (by omega)) ?_
 repeat (first|refine zF ?_|refine zB ?_|refine zE ?_|refine zK G G G ?_|refine L_len G G G ?_)
 refine L_no G G (pv_eql G G) (by decide) ?_
 repeat (first|refine zF ?_|refine zB ?_|refine zE ?_|refine zK G G G ?_|refine L_len G G G ?_|refine zP ?_|refine zI G ?_)
 refine L_no G G (pv_eql G G) (by omega) ?_
 repeat (first|refine zF ?_|refine zB ?_|refine zE ?_|refine zK G G G ?_|refine zP ?_|refine zI G ?_|refine L_add G G (by omega) (by omega) G G ?_)
 refine yH G G (pv_cap G) ?_
 have eflat:es.flatten=(es.take i).flatten++(es.drop i).flatten:=by rw [← List.flatten_append,List.take_append_drop]
 have lA:(es.take i).flatten.length=i*2:=by rw [length_flat (fun x hx=>hes x (List.mem_of_mem_take hx)),List.length_take,Nat.min_eq_left (by omega)]
 have lD:(es.drop i).flatten.length=(es.length - i)*2:=by rw [length_flat (fun x hx=>hes x (List.mem_of_mem_drop hx)),List.length_drop]
 have hkc1:∀ n∈[kc],∀ u∈n,u.oneCell'=true:=by intro n hn; rw [List.mem_singleton] at hn; subst hn; exact hk1
 have hall:∀ x∈es.take i++kc::es.drop i,x.length=2:=by
  intro x hx
  rcases List.mem_append.1 hx with hx|hx
  ·exact hes x (List.mem_of_mem_take hx)
  ·rcases List.mem_cons.1 hx with rfl|hx
   ·exact hk
   ·exact hes x (List.mem_of_mem_drop hx)
 have hlen:(es.take i++kc::es.drop i).length=es.length+1:=by simp; omega
 refine yG G G (pv_gtr G G) (fun hg=>?_) (fun hg=>?_)
 ·repeat (first|refine zF ?_|refine zB ?_|refine zE ?_|refine zK G G G ?_|refine zJ G ?_)
  refine yH G G (pv_slice_h (m:=i) G G (by omega)) ?_
  repeat (first|refine zK G G G ?_|refine L_add G G (by omega) (by omega) G G ?_|refine L_sub G G (by omega) (by omega) G G ?_)
  rw [show (es.length:Int)+((1:Nat):Int) - (i:Int)=((es.length+1 - i:Nat):Int) by omega]
  refine L_eff G G (ev_append_zeros (olds:=(es.take i).flatten) G G (by rw [eflat,List.append_assoc,← lA,List.take_left]) (by rw [List.length_append,eflat,List.length_append,lA]; omega) (by omega) G G (by omega) G (by omega)) ?_
  rintro _ _ ⟨b2,cap2,spare2,rfl,hc2,hmax2,hsp2,rfl⟩
  rw [show i+(es.length+1 - i)=es.length+1 by omega] at *
  obtain ⟨D1,D2,hD,l1,l2⟩:∃ D1 D2,(List.replicate (es.length+1 - i) (Value.cells (.agg #[.int .i64 0,.slice none 0 0])).toList).flatten=D1++D2∧D1.length=2∧D2.length=(es.length - i)*2 :=
   ⟨_,_,(List.take_append_drop 2 _).symm,by simp [Value.cells]; omega,by simp [Value.cells]; omega⟩
  rw [hD]
  repeat (first|refine zF ?_|refine zB ?_|refine zE ?_|refine zK G G G ?_)
  refine yH G G (pv_slice_l (l:=i) G G (by omega)) ?_
  rw [shiftA_some (b:=b2) (l:=i) (cap:=cap2) (by omega)]
  repeat (refine zK G G G ?_)
  refine L_eff G G (ev_copy (n:=1) G G (rd_one hk) (fun n hn=>hkc1 n (List.mem_of_mem_take hn)) (Nat.min_eq_left (by simp only [List.length_singleton]; omega)) (by omega) (by omega) (by simp only [List.length_append,lA,l1,l2]; omega)) ?_
  rintro _ _ ⟨rfl,rfl⟩
  have c1:((es.take i).flatten++(D1++D2)++spare2).take (0+i*2)++([kc].take 1).flatten++((es.take i).flatten++(D1++D2)++spare2).drop (0+i*2+1*2)=(es.take i).flatten++kc++D2++spare2:=by
   have:=copy_at (A:=(es.take i).flatten) (D:=D1) (E:=D2++spare2) (F:=kc) lA l1
   simpa [List.append_assoc] using this
  rw [c1]
  have hrd:RdRow w0 (pt b2 (.cells ((es.take i).flatten++kc++D2++spare2).toArray 153 (0,0))+(pt b (.cells (es.flatten++spare).toArray 153 (0,0))+pt bv (.cells kc.toArray 153 (0,0))+fr)) 2 (.slice (some ⟨b,0,none⟩) es.length cap) es:=rd_block hes
  have hrd2:=hrd.drop (l:=i) (by omega) hcap
  rw [shiftA_some (b:=b) (l:=i) (cap:=cap) (by omega)] at hrd2
  repeat (first|refine zF ?_|refine zE ?_)
  refine yC [8] [0,1,2,3,4,5,6,7,8] (by kernel_rfl) G (by kernel_rfl) (by kernel_rfl) ?_
  repeat (first|refine yI G G G G G ?_|refine yE G G G G (pv_add G G (by omega) (by omega)) ?_)
  refine yE G G G G (pv_slice_l (l:=i+1) G G (by omega)) ?_
  rw [shiftA_some (b:=b2) (l:=i+1) (cap:=cap2) (by omega)]
  repeat (refine yI G G G G G ?_)
  refine yE G G G G (pv_slice_l (l:=i) G G (by omega)) ?_
  rw [shiftA_some (b:=b) (l:=i) (cap:=cap) (by omega)]
  refine W_eff G G G G (ev_copy (n:=es.length - i) G G hrd2 (fun n hn=>h1 n (List.mem_of_mem_drop (List.mem_of_mem_take hn))) (by rw [List.length_drop]; exact Nat.min_eq_left (by omega)) (by omega) (by omega) (by simp only [List.length_append,lA,hk,l2]; omega)) (Kept.all _) ?_
  rintro _ _ ⟨rfl,rfl⟩
  refine ⟨trivial,?_⟩
  have c2:((es.take i).flatten++kc++D2++spare2).take (0+(i+1)*2)++((es.drop i).take (es.length - i)).flatten++((es.take i).flatten++kc++D2++spare2).drop (0+(i+1)*2+(es.length - i)*2)=(es.take i++kc::es.drop i).flatten++spare2:=by
   rw [show (es.drop i).take (es.length - i)=es.drop i from List.take_of_length_le (by rw [List.length_drop]; omega)]
   have:=copy_at (A:=(es.take i).flatten++kc) (D:=D2) (E:=spare2) (F:=(es.drop i).flatten) (o:=0+(i+1)*2) (by rw [List.length_append,lA,hk]; omega) l2
   rw [this,List.flatten_append,List.flatten_cons,List.append_assoc,List.append_assoc,List.append_assoc,List.append_assoc]
  rw [c2]
  repeat (refine yJ ?_)
  repeat (first|refine zF ?_|refine zB ?_|refine zE ?_|refine zK G G G ?_|refine zM ?_)
  have hrow:=isRow_block (E:=153) (b:=b2) (cap:=cap2) (spare:=spare2) hall (by rw [hlen]; omega) hmax2 (by rw [hlen]; exact hsp2)
  rw [hlen] at hrow
  exact ⟨[_],_,_,⟨rfl,trivial⟩,hrow,yK.out⟩
 ·repeat (first|refine zF ?_|refine zB ?_|refine zE ?_|refine zK G G G ?_|refine zP ?_|refine zI G ?_|refine L_add G G (by omega) (by omega) G G ?_)
  refine yH G G (pv_slice_h (m:=es.length+1) G G (by omega)) ?_
  repeat (first|refine zF ?_|refine zB ?_|refine zE ?_|refine zK G G G ?_|refine L_add G G (by omega) (by omega) G G ?_)
  obtain ⟨S1,S2,hS,l1,l2⟩:∃ S1 S2,spare=S1++S2∧S1.length=2∧S2.length=(cap - (es.length+1))*2 :=
   ⟨_,_,(List.take_append_drop 2 spare).symm,by rw [List.length_take,hsp]; omega,by rw [List.length_drop,hsp]; omega⟩
  subst hS
  refine yH G G (pv_slice_l (l:=i+1) G G (by omega)) ?_
  rw [shiftA_some (b:=b) (l:=i+1) (cap:=cap) (by omega)]
  refine L_eff G G (ev_overlaps (t:=25) (tR:=4) (c1:=kc) (c2:=es.flatten++(S1++S2)) (e1:=153) (e2:=153) Tryz.func267 (by kernel_rfl) (by kernel_rfl) (by kernel_rfl) (by kernel_rfl) G G (by simp only [List.length_append,l1]; omega)) ?_
  rintro _ _ ⟨rfl,rfl⟩
  repeat (first|refine zF ?_|refine zE ?_|refine zK G G G ?_|refine zJ G ?_)
  have hes':∀ x∈es++[S1],x.length=2:=by
   intro x hx
   rcases List.mem_append.1 hx with hx|hx
   ·exact hes x hx
   ·rw [List.mem_singleton] at hx; subst hx; exact l1
  have ecells:es.flatten++(S1++S2)=(es++[S1]).flatten++S2:=by simp
  rw [ecells]
  have hrd:RdRow w0 (pt b (.cells ((es++[S1]).flatten++S2).toArray 153 (0,0))+pt bv (.cells kc.toArray 153 (0,0))+fr) 2 (.slice (some ⟨b,0,none⟩) (es++[S1]).length cap) (es++[S1]):=rd_block hes'
  rw [show (es++[S1]).length=es.length+1 by simp] at hrd
  have hrd2:=hrd.drop (l:=i) (by omega) (by omega)
  rw [shiftA_some (b:=b) (l:=i) (cap:=cap) (by omega)] at hrd2
  have hd1:(es++[S1]).drop i=es.drop i++[S1]:=List.drop_append_of_le_length (by omega)
  rw [hd1] at hrd2
  have h1':∀ n∈(es.drop i++[S1]).take (es.length - i),∀ u∈n,u.oneCell'=true:=by
   rw [List.take_left' (by rw [List.length_drop])]
   exact fun n hn=>h1 n (List.mem_of_mem_drop hn)
  refine yC [8] [0,1,2,3,4,5,6,7,8] (by kernel_rfl) G (by kernel_rfl) (by kernel_rfl) ?_
  repeat (first|refine yI G G G G G ?_|refine yE G G G G (pv_add G G (by omega) (by omega)) ?_)
  refine yE G G G G (pv_slice_l (l:=i+1) G G (by omega)) ?_
  rw [shiftA_some (b:=b) (l:=i+1) (cap:=cap) (by omega)]
  repeat (refine yI G G G G G ?_)
  refine yE G G G G (pv_slice_l (l:=i) G G (by omega)) ?_
  rw [shiftA_some (b:=b) (l:=i) (cap:=cap) (by omega)]
  refine W_eff G G G G (ev_copy (n:=es.length - i) G G hrd2 h1' (by rw [List.length_append,List.length_drop,List.length_singleton]; show min _ _=_; omega) (by omega) (by omega) (by simp only [List.length_append,List.flatten_append,eflat,lA,lD,l1,l2,List.flatten_cons,List.flatten_nil,List.length_nil]; omega)) (Kept.all _) ?_
  rintro _ _ ⟨rfl,rfl⟩
  refine ⟨trivial,?_⟩
  have lA':(es.take (i+1)).flatten.length=0+(i+1)*2:=by rw [length_flat (fun x hx=>hes x (List.mem_of_mem_take hx)),List.length_take,Nat.min_eq_left (by omega)]; omega
  have lD':((es.drop (i+1)).flatten++S1).length=(es.length - i)*2:=by rw [List.length_append,length_flat (fun x hx=>hes x (List.mem_of_mem_drop hx)),List.length_drop,l1]; omega
  have lI:es[i].length=2:=hes _ (List.getElem_mem hi)
  have esp:(es.take (i+1)).flatten=(es.take i).flatten++es[i]:=by rw [List.take_succ_eq_append_getElem hi,List.flatten_append]; simp
  have c1:((es++[S1]).flatten++S2).take (0+(i+1)*2)++((es.drop i++[S1]).take (es.length - i)).flatten++((es++[S1]).flatten++S2).drop (0+(i+1)*2+(es.length - i)*2)=(es.take i).flatten++es[i]++((es.drop i).flatten++S2):=by
   have e0:(es++[S1]).flatten++S2=(es.take (i+1)).flatten++((es.drop (i+1)).flatten++S1)++S2:=by
    have e3:es.flatten=(es.take (i+1)).flatten++(es.drop (i+1)).flatten:=by rw [← List.flatten_append,List.take_append_drop]
    rw [List.flatten_append,e3]; simp [List.append_assoc]
   rw [e0,List.take_left' (by rw [List.length_drop]:(es.drop i).length=es.length - i),copy_at lA' lD',esp,List.append_assoc]
  rw [c1]
  repeat (refine yJ ?_)
  repeat (first|refine zF ?_|refine zB ?_|refine zK G G G ?_)
  refine yH G G (pv_slice_l (l:=i) G G (by omega)) ?_
  rw [shiftA_some (b:=b) (l:=i) (cap:=cap) (by omega)]
  repeat (refine zK G G G ?_)
  refine L_eff G G (ev_copy (n:=1) G G (rd_one hk) (fun n hn=>hkc1 n (List.mem_of_mem_take hn)) (Nat.min_eq_left (by simp only [List.length_singleton]; omega)) (by omega) (by omega) (by simp only [List.length_append,lA,lI]; omega)) ?_
  rintro _ _ ⟨rfl,rfl⟩
  have c2:((es.take i).flatten++es[i]++((es.drop i).flatten++S2)).take (0+i*2)++([kc].take 1).flatten++((es.take i).flatten++es[i]++((es.drop i).flatten++S2)).drop (0+i*2+1*2)=(es.take i++kc::es.drop i).flatten++S2:=by
   have:=copy_at (A:=(es.take i).flatten) (D:=es[i]) (E:=(es.drop i).flatten++S2) (F:=kc) (o:=0+i*2) (m:=1*2) (by rw [lA]; omega) (by rw [lI])
   rw [show ([kc].take 1).flatten=kc by simp,this,List.flatten_append,List.flatten_cons,List.append_assoc,List.append_assoc,List.append_assoc]
  rw [c2]
  repeat (first|refine zF ?_|refine zB ?_|refine zE ?_|refine zK G G G ?_|refine zM ?_)
  have hrow:=isRow_block (E:=153) (b:=b) (cap:=cap) (spare:=S2) hall (by rw [hlen]; omega) hmax (by rw [hlen]; exact l2)
  rw [hlen] at hrow
  exact ⟨[_],_,_,⟨rfl,trivial⟩,hrow,yK.out⟩
theorem insertAtBlk_spec (w0:World) (es:List (List Value)) (v:Value) (h:Hp) (bv i:Nat) (kc:List Value) (hr:isRow 153 2 es v h) (hi:i≤es.length) (h1:∀ n∈es,∀ u∈n,u.oneCell'=true)
  (hk:kc.length=2) (hk1:∀ u∈kc,u.oneCell'=true) (hlim:es.length≤1000000000) :
  Spec Tryz.prog w0 243 [v,.int .i64 (i:Int),.slice (some ⟨bv,0,none⟩) 1 1] (h+pt bv (.cells kc.toArray 153 (0,0)))
   (fun r h'=>isRow 153 2 (es.take i++kc::es.drop i) r h'):=by
 rcases Nat.lt_or_ge i es.length with hlt|hge
 ·obtain ⟨b,cap,spare,rfl,rfl,h2,h3,h4,h5⟩:=hr.nonempty (by intro e; subst e; simp at hlt)
  exact insertBlk_spec w0 b cap bv i es spare kc hlt h2 h1 h3 h4 h5 hk hk1 hlim
 ·obtain rfl:i=es.length:=by omega
  obtain ⟨a,c,rfl⟩:=hr.shape
  have hkc1:∀ n∈[kc],∀ u∈n,u.oneCell'=true:=by intro n hn; rw [List.mem_singleton] at hn; subst hn; exact hk1
  refine zN Tryz.func243 G Tryz.ntmps243 Tryz.results243 G fun fr=>?_
  repeat (first|refine zF ?_|refine zB ?_|refine zE ?_|refine zK G G G ?_)
  refine yH G G (pv_slice_l (l:=es.length) G G (by omega)) ?_
  repeat (first|refine zF ?_|refine zB ?_|refine zE ?_|refine zK G G G ?_|refine L_len G G G ?_)
  refine L_no G G (pv_eql G G) (by decide) ?_
  repeat (first|refine zF ?_|refine zB ?_|refine zE ?_|refine zK G G G ?_|refine L_len G G G ?_|refine zP ?_|refine zI G ?_)
  refine L_yes G G (pv_eql G G) G ?_
  repeat (first|refine zF ?_|refine zB ?_|refine zE ?_|refine zK G G G ?_|refine zJ G ?_)
  refine L_eff G G (ev_append (xs:=es) (h:=h) (ns:=[kc]) G G hr (rd_one hk) hkc1 G G G (by simp only [List.length_singleton]; omega)) ?_
  rintro v' _ ⟨h',hr',rfl⟩
  repeat (first|refine zE ?_|refine zK G G G ?_|refine zM ?_)
  rw [show es++[kc]=es.take es.length++kc::es.drop es.length by simp] at hr'
  exact ⟨[_],h',_,⟨rfl,trivial⟩,hr',yK.out⟩
theorem insertKpt_spec (w0:World) (b cap bv i:Nat) (es:List (List Value)) (spare kc:List Value) (hi:i<es.length) (hes:∀ x∈es,x.length=3) (h1:∀ n∈es,∀ u∈n,u.oneCell'=true) (hcap:es.length≤cap) (hmax:cap≤maxLen) (hsp:spare.length=(cap - es.length)*3)
  (hk:kc.length=3) (hk1:∀ u∈kc,u.oneCell'=true) (hlim:es.length≤1000000000) :
  Spec Tryz.prog w0 244 [.slice (some ⟨b,0,none⟩) es.length cap,.int .i64 (i:Int),.slice (some ⟨bv,0,none⟩) 1 1]
   (pt b (.cells (es.flatten++spare).toArray 73 (0,0))+pt bv (.cells kc.toArray 73 (0,0)))
   (fun r h'=>isRow 73 3 (es.take i++kc::es.drop i) r h'):=by
 refine zN Tryz.func244 G Tryz.ntmps244 Tryz.results244 G fun fr=>?_
 repeat (first|refine zF ?_|refine zB ?_|refine zE ?_|refine zK G G G ?_)
 refine yH G G (pv_slice_l (l:=i) G G (by omega)) ?_
 repeat (first|refine zF ?_|refine zB ?_|refine zE ?_|refine zK G G G ?_|refine L_len G G G ?_)
 refine L_no G G (pv_eql G G) (by decide) ?_
 repeat (first|refine zF ?_|refine zB ?_|refine zE ?_|refine zK G G G ?_|refine L_len G G G ?_|refine zP ?_|refine zI G ?_)
 refine L_no G G (pv_eql G G) (by omega) ?_
 repeat (first|refine zF ?_|refine zB ?_|refine zE ?_|refine zK G G G ?_|refine zP ?_|refine zI G ?_|refine L_add G G (by omega) (by omega) G G ?_)
 refine yH G G (pv_cap G) ?_
 have eflat:es.flatten=(es.take i).flatten++(es.drop i).flatten:=by rw [← List.flatten_append,List.take_append_drop]
 have lA:(es.take i).flatten.length=i*3:=by rw [length_flat (fun x hx=>hes x (List.mem_of_mem_take hx)),List.length_take,Nat.min_eq_left (by omega)]
 have lD:(es.drop i).flatten.length=(es.length - i)*3:=by rw [length_flat (fun x hx=>hes x (List.mem_of_mem_drop hx)),List.length_drop]
 have hkc1:∀ n∈[kc],∀ u∈n,u.oneCell'=true:=by intro n hn; rw [List.mem_singleton] at hn; subst hn; exact hk1
 have hall:∀ x∈es.take i++kc::es.drop i,x.length=3:=by
  intro x hx
  rcases List.mem_append.1 hx with hx|hx
  ·exact hes x (List.mem_of_mem_take hx)
  ·rcases List.mem_cons.1 hx with rfl|hx
   ·exact hk
   ·exact hes x (List.mem_of_mem_drop hx)
 have hlen:(es.take i++kc::es.drop i).length=es.length+1:=by simp; omega
 refine yG G G (pv_gtr G G) (fun hg=>?_) (fun hg=>?_)
 ·repeat (first|refine zF ?_|refine zB ?_|refine zE ?_|refine zK G G G ?_|refine zJ G ?_)
  refine yH G G (pv_slice_h (m:=i) G G (by omega)) ?_
  repeat (first|refine zK G G G ?_|refine L_add G G (by omega) (by omega) G G ?_|refine L_sub G G (by omega) (by omega) G G ?_)
  rw [show (es.length:Int)+((1:Nat):Int) - (i:Int)=((es.length+1 - i:Nat):Int) by omega]
  refine L_eff G G (ev_append_zeros (olds:=(es.take i).flatten) G G (by rw [eflat,List.append_assoc,← lA,List.take_left]) (by rw [List.length_append,eflat,List.length_append,lA]; omega) (by omega) G G (by omega) G (by omega)) ?_
  rintro _ _ ⟨b2,cap2,spare2,rfl,hc2,hmax2,hsp2,rfl⟩
  rw [show i+(es.length+1 - i)=es.length+1 by omega] at *
  obtain ⟨D1,D2,hD,l1,l2⟩:∃ D1 D2,(List.replicate (es.length+1 - i) (Value.cells (.agg #[.int .i64 0,.int .i64 0,.slice none 0 0])).toList).flatten=D1++D2∧D1.length=3∧D2.length=(es.length - i)*3 :=
   ⟨_,_,(List.take_append_drop 3 _).symm,by simp [Value.cells]; omega,by simp [Value.cells]; omega⟩
  rw [hD]
  repeat (first|refine zF ?_|refine zB ?_|refine zE ?_|refine zK G G G ?_)
  refine yH G G (pv_slice_l (l:=i) G G (by omega)) ?_
  rw [shiftA_some (b:=b2) (l:=i) (cap:=cap2) (by omega)]
  repeat (refine zK G G G ?_)
  refine L_eff G G (ev_copy (n:=1) G G (rd_one hk) (fun n hn=>hkc1 n (List.mem_of_mem_take hn)) (Nat.min_eq_left (by simp only [List.length_singleton]; omega)) (by omega) (by omega) (by simp only [List.length_append,lA,l1,l2]; omega)) ?_
  rintro _ _ ⟨rfl,rfl⟩
  have c1:((es.take i).flatten++(D1++D2)++spare2).take (0+i*3)++([kc].take 1).flatten++((es.take i).flatten++(D1++D2)++spare2).drop (0+i*3+1*3)=(es.take i).flatten++kc++D2++spare2:=by
   have:=copy_at (A:=(es.take i).flatten) (D:=D1) (E:=D2++spare2) (F:=kc) lA l1
   simpa [List.append_assoc] using this
  rw [c1]
  have hrd:RdRow w0 (pt b2 (.cells ((es.take i).flatten++kc++D2++spare2).toArray 73 (0,0))+(pt b (.cells (es.flatten++spare).toArray 73 (0,0))+pt bv (.cells kc.toArray 73 (0,0))+fr)) 3 (.slice (some ⟨b,0,none⟩) es.length cap) es:=rd_block hes
  have hrd2:=hrd.drop (l:=i) (by omega) hcap
  rw [shiftA_some (b:=b) (l:=i) (cap:=cap) (by omega)] at hrd2
  repeat (first|refine zF ?_|refine zE ?_)
  refine yC [8] [0,1,2,3,4,5,6,7,8] (by kernel_rfl) G (by kernel_rfl) (by kernel_rfl) ?_
  repeat (first|refine yI G G G G G ?_|refine yE G G G G (pv_add G G (by omega) (by omega)) ?_)
  refine yE G G G G (pv_slice_l (l:=i+1) G G (by omega)) ?_
  rw [shiftA_some (b:=b2) (l:=i+1) (cap:=cap2) (by omega)]
  repeat (refine yI G G G G G ?_)
  refine yE G G G G (pv_slice_l (l:=i) G G (by omega)) ?_
  rw [shiftA_some (b:=b) (l:=i) (cap:=cap) (by omega)]
  refine W_eff G G G G (ev_copy (n:=es.length - i) G G hrd2 (fun n hn=>h1 n (List.mem_of_mem_drop (List.mem_of_mem_take hn))) (by rw [List.length_drop]; exact Nat.min_eq_left (by omega)) (by omega) (by omega) (by simp only [List.length_append,lA,hk,l2]; omega)) (Kept.all _) ?_
  rintro _ _ ⟨rfl,rfl⟩
  refine ⟨trivial,?_⟩
  have c2:((es.take i).flatten++kc++D2++spare2).take (0+(i+1)*3)++((es.drop i).take (es.length - i)).flatten++((es.take i).flatten++kc++D2++spare2).drop (0+(i+1)*3+(es.length - i)*3)=(es.take i++kc::es.drop i).flatten++spare2:=by
   rw [show (es.drop i).take (es.length - i)=es.drop i from List.take_of_length_le (by rw [List.length_drop]; omega)]
   have:=copy_at (A:=(es.take i).flatten++kc) (D:=D2) (E:=spare2) (F:=(es.drop i).flatten) (o:=0+(i+1)*3) (by rw [List.length_append,lA,hk]; omega) l2
   rw [this,List.flatten_append,List.flatten_cons,List.append_assoc,List.append_assoc,List.append_assoc,List.append_assoc]
  rw [c2]
  repeat (refine yJ ?_)
  repeat (first|refine zF ?_|refine zB ?_|refine zE ?_|refine zK G G G ?_|refine zM ?_)
  have hrow:=isRow_block (E:=73) (b:=b2) (cap:=cap2) (spare:=spare2) hall (by rw [hlen]; omega) hmax2 (by rw [hlen]; exact hsp2)
  rw [hlen] at hrow
  exact ⟨[_],_,_,⟨rfl,trivial⟩,hrow,yK.out⟩
 ·repeat (first|refine zF ?_|refine zB ?_|refine zE ?_|refine zK G G G ?_|refine zP ?_|refine zI G ?_|refine L_add G G (by omega) (by omega) G G ?_)
  refine yH G G (pv_slice_h (m:=es.length+1) G G (by omega)) ?_
  repeat (first|refine zF ?_|refine zB ?_|refine zE ?_|refine zK G G G ?_|refine L_add G G (by omega) (by omega) G G ?_)
  obtain ⟨S1,S2,hS,l1,l2⟩:∃ S1 S2,spare=S1++S2∧S1.length=3∧S2.length=(cap - (es.length+1))*3 :=
   ⟨_,_,(List.take_append_drop 3 spare).symm,by rw [List.length_take,hsp]; omega,by rw [List.length_drop,hsp]; omega⟩
  subst hS
  refine yH G G (pv_slice_l (l:=i+1) G G (by omega)) ?_
  rw [shiftA_some (b:=b) (l:=i+1) (cap:=cap) (by omega)]
  refine L_eff G G (ev_overlaps (t:=26) (tR:=4) (c1:=kc) (c2:=es.flatten++(S1++S2)) (e1:=73) (e2:=73) Tryz.func269 (by kernel_rfl) (by kernel_rfl) (by kernel_rfl) (by kernel_rfl) G G (by simp only [List.length_append,l1]; omega)) ?_
  rintro _ _ ⟨rfl,rfl⟩
  repeat (first|refine zF ?_|refine zE ?_|refine zK G G G ?_|refine zJ G ?_)
  have hes':∀ x∈es++[S1],x.length=3:=by
   intro x hx
   rcases List.mem_append.1 hx with hx|hx
   ·exact hes x hx
   ·rw [List.mem_singleton] at hx; subst hx; exact l1
  have ecells:es.flatten++(S1++S2)=(es++[S1]).flatten++S2:=by simp
  rw [ecells]
  have hrd:RdRow w0 (pt b (.cells ((es++[S1]).flatten++S2).toArray 73 (0,0))+pt bv (.cells kc.toArray 73 (0,0))+fr) 3 (.slice (some ⟨b,0,none⟩) (es++[S1]).length cap) (es++[S1]):=rd_block hes'
  rw [show (es++[S1]).length=es.length+1 by simp] at hrd
  have hrd2:=hrd.drop (l:=i) (by omega) (by omega)
  rw [shiftA_some (b:=b) (l:=i) (cap:=cap) (by omega)] at hrd2
  have hd1:(es++[S1]).drop i=es.drop i++[S1]:=List.drop_append_of_le_length (by omega)
  rw [hd1] at hrd2
  have h1':∀ n∈(es.drop i++[S1]).take (es.length - i),∀ u∈n,u.oneCell'=true:=by
   rw [List.take_left' (by rw [List.length_drop])]
   exact fun n hn=>h1 n (List.mem_of_mem_drop hn)
  refine yC [8] [0,1,2,3,4,5,6,7,8] (by kernel_rfl) G (by kernel_rfl) (by kernel_rfl) ?_
  repeat (first|refine yI G G G G G ?_|refine yE G G G G (pv_add G G (by omega) (by omega)) ?_)
  refine yE G G G G (pv_slice_l (l:=i+1) G G (by omega)) ?_
  rw [shiftA_some (b:=b) (l:=i+1) (cap:=cap) (by omega)]
  repeat (refine yI G G G G G ?_)
  refine yE G G G G (pv_slice_l (l:=i) G G (by omega)) ?_
  rw [shiftA_some (b:=b) (l:=i) (cap:=cap) (by omega)]
  refine W_eff G G G G (ev_copy (n:=es.length - i) G G hrd2 h1' (by rw [List.length_append,List.length_drop,List.length_singleton]; show min _ _=_; omega) (by omega) (by omega) (by simp only [List.length_append,List.flatten_append,eflat,lA,lD,l1,l2,List.flatten_cons,List.flatten_nil,List.length_nil]; omega)) (Kept.all _) ?_
  rintro _ _ ⟨rfl,rfl⟩
  refine ⟨trivial,?_⟩
  have lA':(es.take (i+1)).flatten.length=0+(i+1)*3:=by rw [length_flat (fun x hx=>hes x (List.mem_of_mem_take hx)),List.length_take,Nat.min_eq_left (by omega)]; omega
  have lD':((es.drop (i+1)).flatten++S1).length=(es.length - i)*3:=by rw [List.length_append,length_flat (fun x hx=>hes x (List.mem_of_mem_drop hx)),List.length_drop,l1]; omega
  have lI:es[i].length=3:=hes _ (List.getElem_mem hi)
  have esp:(es.take (i+1)).flatten=(es.take i).flatten++es[i]:=by rw [List.take_succ_eq_append_getElem hi,List.flatten_append]; simp
  have c1:((es++[S1]).flatten++S2).take (0+(i+1)*3)++((es.drop i++[S1]).take (es.length - i)).flatten++((es++[S1]).flatten++S2).drop (0+(i+1)*3+(es.length - i)*3)=(es.take i).flatten++es[i]++((es.drop i).flatten++S2):=by
   have e0:(es++[S1]).flatten++S2=(es.take (i+1)).flatten++((es.drop (i+1)).flatten++S1)++S2:=by
    have e3:es.flatten=(es.take (i+1)).flatten++(es.drop (i+1)).flatten:=by rw [← List.flatten_append,List.take_append_drop]
    rw [List.flatten_append,e3]; simp [List.append_assoc]
   rw [e0,List.take_left' (by rw [List.length_drop]:(es.drop i).length=es.length - i),copy_at lA' lD',esp,List.append_assoc]
  rw [c1]
  repeat (refine yJ ?_)
  repeat (first|refine zF ?_|refine zB ?_|refine zK G G G ?_)
  refine yH G G (pv_slice_l (l:=i) G G (by omega)) ?_
  rw [shiftA_some (b:=b) (l:=i) (cap:=cap) (by omega)]
  repeat (refine zK G G G ?_)
  refine L_eff G G (ev_copy (n:=1) G G (rd_one hk) (fun n hn=>hkc1 n (List.mem_of_mem_take hn)) (Nat.min_eq_left (by simp only [List.length_singleton]; omega)) (by omega) (by omega) (by simp only [List.length_append,lA,lI]; omega)) ?_
  rintro _ _ ⟨rfl,rfl⟩
  have c2:((es.take i).flatten++es[i]++((es.drop i).flatten++S2)).take (0+i*3)++([kc].take 1).flatten++((es.take i).flatten++es[i]++((es.drop i).flatten++S2)).drop (0+i*3+1*3)=(es.take i++kc::es.drop i).flatten++S2:=by
   have:=copy_at (A:=(es.take i).flatten) (D:=es[i]) (E:=(es.drop i).flatten++S2) (F:=kc) (o:=0+i*3) (m:=1*3) (by rw [lA]; omega) (by rw [lI])
   rw [show ([kc].take 1).flatten=kc by simp,this,List.flatten_append,List.flatten_cons,List.append_assoc,List.append_assoc,List.append_assoc]
  rw [c2]
  repeat (first|refine zF ?_|refine zB ?_|refine zE ?_|refine zK G G G ?_|refine zM ?_)
  have hrow:=isRow_block (E:=73) (b:=b) (cap:=cap) (spare:=S2) hall (by rw [hlen]; omega) hmax (by rw [hlen]; exact l2)
  rw [hlen] at hrow
  exact ⟨[_],_,_,⟨rfl,trivial⟩,hrow,yK.out⟩
theorem insertAtKpt_spec (w0:World) (es:List (List Value)) (v:Value) (h:Hp) (bv i:Nat) (kc:List Value) (hr:isRow 73 3 es v h) (hi:i≤es.length) (h1:∀ n∈es,∀ u∈n,u.oneCell'=true)
  (hk:kc.length=3) (hk1:∀ u∈kc,u.oneCell'=true) (hlim:es.length≤1000000000) :
  Spec Tryz.prog w0 244 [v,.int .i64 (i:Int),.slice (some ⟨bv,0,none⟩) 1 1] (h+pt bv (.cells kc.toArray 73 (0,0)))
   (fun r h'=>isRow 73 3 (es.take i++kc::es.drop i) r h'):=by
 rcases Nat.lt_or_ge i es.length with hlt|hge
 ·obtain ⟨b,cap,spare,rfl,rfl,h2,h3,h4,h5⟩:=hr.nonempty (by intro e; subst e; simp at hlt)
  exact insertKpt_spec w0 b cap bv i es spare kc hlt h2 h1 h3 h4 h5 hk hk1 hlim
 ·obtain rfl:i=es.length:=by omega
  obtain ⟨a,c,rfl⟩:=hr.shape
  have hkc1:∀ n∈[kc],∀ u∈n,u.oneCell'=true:=by intro n hn; rw [List.mem_singleton] at hn; subst hn; exact hk1
  refine zN Tryz.func244 G Tryz.ntmps244 Tryz.results244 G fun fr=>?_
  repeat (first|refine zF ?_|refine zB ?_|refine zE ?_|refine zK G G G ?_)
  refine yH G G (pv_slice_l (l:=es.length) G G (by omega)) ?_
  repeat (first|refine zF ?_|refine zB ?_|refine zE ?_|refine zK G G G ?_|refine L_len G G G ?_)
  refine L_no G G (pv_eql G G) (by decide) ?_
  repeat (first|refine zF ?_|refine zB ?_|refine zE ?_|refine zK G G G ?_|refine L_len G G G ?_|refine zP ?_|refine zI G ?_)
  refine L_yes G G (pv_eql G G) G ?_
  repeat (first|refine zF ?_|refine zB ?_|refine zE ?_|refine zK G G G ?_|refine zJ G ?_)
  refine L_eff G G (ev_append (xs:=es) (h:=h) (ns:=[kc]) G G hr (rd_one hk) hkc1 G G G (by simp only [List.length_singleton]; omega)) ?_
  rintro v' _ ⟨h',hr',rfl⟩
  repeat (first|refine zE ?_|refine zK G G G ?_|refine zM ?_)
  rw [show es++[kc]=es.take es.length++kc::es.drop es.length by simp] at hr'
  exact ⟨[_],h',_,⟨rfl,trivial⟩,hr',yK.out⟩
theorem insertSes_spec (w0:World) (b cap bv i:Nat) (es:List (List Value)) (spare kc:List Value) (hi:i<es.length) (hes:∀ x∈es,x.length=4) (h1:∀ n∈es,∀ u∈n,u.oneCell'=true) (hcap:es.length≤cap) (hmax:cap≤maxLen) (hsp:spare.length=(cap - es.length)*4)
  (hk:kc.length=4) (hk1:∀ u∈kc,u.oneCell'=true) (hlim:es.length≤1000000000) :
  Spec Tryz.prog w0 223 [.slice (some ⟨b,0,none⟩) es.length cap,.int .i64 (i:Int),.slice (some ⟨bv,0,none⟩) 1 1]
   (pt b (.cells (es.flatten++spare).toArray 110 (0,0))+pt bv (.cells kc.toArray 110 (0,0)))
   (fun r h'=>isRow 110 4 (es.take i++kc::es.drop i) r h'):=by
 refine zN Tryz.func223 G Tryz.ntmps223 Tryz.results223 G fun fr=>?_
 repeat (first|refine zF ?_|refine zB ?_|refine zE ?_|refine zK G G G ?_)
 refine yH G G (pv_slice_l (l:=i) G G (by omega)) ?_
 repeat (first|refine zF ?_|refine zB ?_|refine zE ?_|refine zK G G G ?_|refine L_len G G G ?_)
 refine L_no G G (pv_eql G G) (by decide) ?_
 repeat (first|refine zF ?_|refine zB ?_|refine zE ?_|refine zK G G G ?_|refine L_len G G G ?_|refine zP ?_|refine zI G ?_)
 refine L_no G G (pv_eql G G) (by omega) ?_
 repeat (first|refine zF ?_|refine zB ?_|refine zE ?_|refine zK G G G ?_|refine zP ?_|refine zI G ?_|refine L_add G G (by omega) (by omega) G G ?_)
 refine yH G G (pv_cap G) ?_
 have eflat:es.flatten=(es.take i).flatten++(es.drop i).flatten:=by rw [← List.flatten_append,List.take_append_drop]
 have lA:(es.take i).flatten.length=i*4:=by rw [length_flat (fun x hx=>hes x (List.mem_of_mem_take hx)),List.length_take,Nat.min_eq_left (by omega)]
 have lD:(es.drop i).flatten.length=(es.length - i)*4:=by rw [length_flat (fun x hx=>hes x (List.mem_of_mem_drop hx)),List.length_drop]
 have hkc1:∀ n∈[kc],∀ u∈n,u.oneCell'=true:=by intro n hn; rw [List.mem_singleton] at hn; subst hn; exact hk1
 have hall:∀ x∈es.take i++kc::es.drop i,x.length=4:=by
  intro x hx
  rcases List.mem_append.1 hx with hx|hx
  ·exact hes x (List.mem_of_mem_take hx)
  ·rcases List.mem_cons.1 hx with rfl|hx
   ·exact hk
   ·exact hes x (List.mem_of_mem_drop hx)
 have hlen:(es.take i++kc::es.drop i).length=es.length+1:=by simp; omega
 refine yG G G (pv_gtr G G) (fun hg=>?_) (fun hg=>?_)
 ·repeat (first|refine zF ?_|refine zB ?_|refine zE ?_|refine zK G G G ?_|refine zJ G ?_)
  refine yH G G (pv_slice_h (m:=i) G G (by omega)) ?_
  repeat (first|refine zK G G G ?_|refine L_add G G (by omega) (by omega) G G ?_|refine L_sub G G (by omega) (by omega) G G ?_)
  rw [show (es.length:Int)+((1:Nat):Int) - (i:Int)=((es.length+1 - i:Nat):Int) by omega]
  refine L_eff G G (ev_append_zeros (olds:=(es.take i).flatten) G G (by rw [eflat,List.append_assoc,← lA,List.take_left]) (by rw [List.length_append,eflat,List.length_append,lA]; omega) (by omega) G G (by omega) G (by omega)) ?_
  rintro _ _ ⟨b2,cap2,spare2,rfl,hc2,hmax2,hsp2,rfl⟩
  rw [show i+(es.length+1 - i)=es.length+1 by omega] at *
  obtain ⟨D1,D2,hD,l1,l2⟩:∃ D1 D2,(List.replicate (es.length+1 - i) (Value.cells (.agg #[.int .i64 0,.int .i64 0,.int .i64 0,.slice none 0 0])).toList).flatten=D1++D2∧D1.length=4∧D2.length=(es.length - i)*4 :=
   ⟨_,_,(List.take_append_drop 4 _).symm,by simp [Value.cells]; omega,by simp [Value.cells]; omega⟩
  rw [hD]
  repeat (first|refine zF ?_|refine zB ?_|refine zE ?_|refine zK G G G ?_)
  refine yH G G (pv_slice_l (l:=i) G G (by omega)) ?_
  rw [shiftA_some (b:=b2) (l:=i) (cap:=cap2) (by omega)]
  repeat (refine zK G G G ?_)
  refine L_eff G G (ev_copy (n:=1) G G (rd_one hk) (fun n hn=>hkc1 n (List.mem_of_mem_take hn)) (Nat.min_eq_left (by simp only [List.length_singleton]; omega)) (by omega) (by omega) (by simp only [List.length_append,lA,l1,l2]; omega)) ?_
  rintro _ _ ⟨rfl,rfl⟩
  have c1:((es.take i).flatten++(D1++D2)++spare2).take (0+i*4)++([kc].take 1).flatten++((es.take i).flatten++(D1++D2)++spare2).drop (0+i*4+1*4)=(es.take i).flatten++kc++D2++spare2:=by
   have:=copy_at (A:=(es.take i).flatten) (D:=D1) (E:=D2++spare2) (F:=kc) lA l1
   simpa [List.append_assoc] using this
  rw [c1]
  have hrd:RdRow w0 (pt b2 (.cells ((es.take i).flatten++kc++D2++spare2).toArray 110 (0,0))+(pt b (.cells (es.flatten++spare).toArray 110 (0,0))+pt bv (.cells kc.toArray 110 (0,0))+fr)) 4 (.slice (some ⟨b,0,none⟩) es.length cap) es:=rd_block hes
  have hrd2:=hrd.drop (l:=i) (by omega) hcap
  rw [shiftA_some (b:=b) (l:=i) (cap:=cap) (by omega)] at hrd2
  repeat (first|refine zF ?_|refine zE ?_)
  refine yC [8] [0,1,2,3,4,5,6,7,8] (by kernel_rfl) G (by kernel_rfl) (by kernel_rfl) ?_
  repeat (first|refine yI G G G G G ?_|refine yE G G G G (pv_add G G (by omega) (by omega)) ?_)
  refine yE G G G G (pv_slice_l (l:=i+1) G G (by omega)) ?_
  rw [shiftA_some (b:=b2) (l:=i+1) (cap:=cap2) (by omega)]
  repeat (refine yI G G G G G ?_)
  refine yE G G G G (pv_slice_l (l:=i) G G (by omega)) ?_
  rw [shiftA_some (b:=b) (l:=i) (cap:=cap) (by omega)]
  refine W_eff G G G G (ev_copy (n:=es.length - i) G G hrd2 (fun n hn=>h1 n (List.mem_of_mem_drop (List.mem_of_mem_take hn))) (by rw [List.length_drop]; exact Nat.min_eq_left (by omega)) (by omega) (by omega) (by simp only [List.length_append,lA,hk,l2]; omega)) (Kept.all _) ?_
  rintro _ _ ⟨rfl,rfl⟩
  refine ⟨trivial,?_⟩
  have c2:((es.take i).flatten++kc++D2++spare2).take (0+(i+1)*4)++((es.drop i).take (es.length - i)).flatten++((es.take i).flatten++kc++D2++spare2).drop (0+(i+1)*4+(es.length - i)*4)=(es.take i++kc::es.drop i).flatten++spare2:=by
   rw [show (es.drop i).take (es.length - i)=es.drop i from List.take_of_length_le (by rw [List.length_drop]; omega)]
   have:=copy_at (A:=(es.take i).flatten++kc) (D:=D2) (E:=spare2) (F:=(es.drop i).flatten) (o:=0+(i+1)*4) (by rw [List.length_append,lA,hk]; omega) l2
   rw [this,List.flatten_append,List.flatten_cons,List.append_assoc,List.append_assoc,List.append_assoc,List.append_assoc]
  rw [c2]
  repeat (refine yJ ?_)
  repeat (first|refine zF ?_|refine zB ?_|refine zE ?_|refine zK G G G ?_|refine zM ?_)
  have hrow:=isRow_block (E:=110) (b:=b2) (cap:=cap2) (spare:=spare2) hall (by rw [hlen]; omega) hmax2 (by rw [hlen]; exact hsp2)
  rw [hlen] at hrow
  exact ⟨[_],_,_,⟨rfl,trivial⟩,hrow,yK.out⟩
 ·repeat (first|refine zF ?_|refine zB ?_|refine zE ?_|refine zK G G G ?_|refine zP ?_|refine zI G ?_|refine L_add G G (by omega) (by omega) G G ?_)
  refine yH G G (pv_slice_h (m:=es.length+1) G G (by omega)) ?_
  repeat (first|refine zF ?_|refine zB ?_|refine zE ?_|refine zK G G G ?_|refine L_add G G (by omega) (by omega) G G ?_)
  obtain ⟨S1,S2,hS,l1,l2⟩:∃ S1 S2,spare=S1++S2∧S1.length=4∧S2.length=(cap - (es.length+1))*4 :=
   ⟨_,_,(List.take_append_drop 4 spare).symm,by rw [List.length_take,hsp]; omega,by rw [List.length_drop,hsp]; omega⟩
  subst hS
  refine yH G G (pv_slice_l (l:=i+1) G G (by omega)) ?_
  rw [shiftA_some (b:=b) (l:=i+1) (cap:=cap) (by omega)]
  refine L_eff G G (ev_overlaps (t:=31) (tR:=4) (c1:=kc) (c2:=es.flatten++(S1++S2)) (e1:=110) (e2:=110) Tryz.func254 (by kernel_rfl) (by kernel_rfl) (by kernel_rfl) (by kernel_rfl) G G (by simp only [List.length_append,l1]; omega)) ?_
  rintro _ _ ⟨rfl,rfl⟩
  repeat (first|refine zF ?_|refine zE ?_|refine zK G G G ?_|refine zJ G ?_)
  have hes':∀ x∈es++[S1],x.length=4:=by
   intro x hx
   rcases List.mem_append.1 hx with hx|hx
   ·exact hes x hx
   ·rw [List.mem_singleton] at hx; subst hx; exact l1
  have ecells:es.flatten++(S1++S2)=(es++[S1]).flatten++S2:=by simp
  rw [ecells]
  have hrd:RdRow w0 (pt b (.cells ((es++[S1]).flatten++S2).toArray 110 (0,0))+pt bv (.cells kc.toArray 110 (0,0))+fr) 4 (.slice (some ⟨b,0,none⟩) (es++[S1]).length cap) (es++[S1]):=rd_block hes'
  rw [show (es++[S1]).length=es.length+1 by simp] at hrd
  have hrd2:=hrd.drop (l:=i) (by omega) (by omega)
  rw [shiftA_some (b:=b) (l:=i) (cap:=cap) (by omega)] at hrd2
  have hd1:(es++[S1]).drop i=es.drop i++[S1]:=List.drop_append_of_le_length (by omega)
  rw [hd1] at hrd2
  have h1':∀ n∈(es.drop i++[S1]).take (es.length - i),∀ u∈n,u.oneCell'=true:=by
   rw [List.take_left' (by rw [List.length_drop])]
   exact fun n hn=>h1 n (List.mem_of_mem_drop hn)
  refine yC [8] [0,1,2,3,4,5,6,7,8] (by kernel_rfl) G (by kernel_rfl) (by kernel_rfl) ?_
  repeat (first|refine yI G G G G G ?_|refine yE G G G G (pv_add G G (by omega) (by omega)) ?_)
  refine yE G G G G (pv_slice_l (l:=i+1) G G (by omega)) ?_
  rw [shiftA_some (b:=b) (l:=i+1) (cap:=cap) (by omega)]
  repeat (refine yI G G G G G ?_)
  refine yE G G G G (pv_slice_l (l:=i) G G (by omega)) ?_
  rw [shiftA_some (b:=b) (l:=i) (cap:=cap) (by omega)]
  refine W_eff G G G G (ev_copy (n:=es.length - i) G G hrd2 h1' (by rw [List.length_append,List.length_drop,List.length_singleton]; show min _ _=_; omega) (by omega) (by omega) (by simp only [List.length_append,List.flatten_append,eflat,lA,lD,l1,l2,List.flatten_cons,List.flatten_nil,List.length_nil]; omega)) (Kept.all _) ?_
  rintro _ _ ⟨rfl,rfl⟩
  refine ⟨trivial,?_⟩
  have lA':(es.take (i+1)).flatten.length=0+(i+1)*4:=by rw [length_flat (fun x hx=>hes x (List.mem_of_mem_take hx)),List.length_take,Nat.min_eq_left (by omega)]; omega
  have lD':((es.drop (i+1)).flatten++S1).length=(es.length - i)*4:=by rw [List.length_append,length_flat (fun x hx=>hes x (List.mem_of_mem_drop hx)),List.length_drop,l1]; omega
  have lI:es[i].length=4:=hes _ (List.getElem_mem hi)
  have esp:(es.take (i+1)).flatten=(es.take i).flatten++es[i]:=by rw [List.take_succ_eq_append_getElem hi,List.flatten_append]; simp
  have c1:((es++[S1]).flatten++S2).take (0+(i+1)*4)++((es.drop i++[S1]).take (es.length - i)).flatten++((es++[S1]).flatten++S2).drop (0+(i+1)*4+(es.length - i)*4)=(es.take i).flatten++es[i]++((es.drop i).flatten++S2):=by
   have e0:(es++[S1]).flatten++S2=(es.take (i+1)).flatten++((es.drop (i+1)).flatten++S1)++S2:=by
    have e3:es.flatten=(es.take (i+1)).flatten++(es.drop (i+1)).flatten:=by rw [← List.flatten_append,List.take_append_drop]
    rw [List.flatten_append,e3]; simp [List.append_assoc]
   rw [e0,List.take_left' (by rw [List.length_drop]:(es.drop i).length=es.length - i),copy_at lA' lD',esp,List.append_assoc]
  rw [c1]
  repeat (refine yJ ?_)
  repeat (first|refine zF ?_|refine zB ?_|refine zK G G G ?_)
  refine yH G G (pv_slice_l (l:=i) G G (by omega)) ?_
  rw [shiftA_some (b:=b) (l:=i) (cap:=cap) (by omega)]
  repeat (refine zK G G G ?_)
  refine L_eff G G (ev_copy (n:=1) G G (rd_one hk) (fun n hn=>hkc1 n (List.mem_of_mem_take hn)) (Nat.min_eq_left (by simp only [List.length_singleton]; omega)) (by omega) (by omega) (by simp only [List.length_append,lA,lI]; omega)) ?_
  rintro _ _ ⟨rfl,rfl⟩
  have c2:((es.take i).flatten++es[i]++((es.drop i).flatten++S2)).take (0+i*4)++([kc].take 1).flatten++((es.take i).flatten++es[i]++((es.drop i).flatten++S2)).drop (0+i*4+1*4)=(es.take i++kc::es.drop i).flatten++S2:=by
   have:=copy_at (A:=(es.take i).flatten) (D:=es[i]) (E:=(es.drop i).flatten++S2) (F:=kc) (o:=0+i*4) (m:=1*4) (by rw [lA]; omega) (by rw [lI])
   rw [show ([kc].take 1).flatten=kc by simp,this,List.flatten_append,List.flatten_cons,List.append_assoc,List.append_assoc,List.append_assoc]
  rw [c2]
  repeat (first|refine zF ?_|refine zB ?_|refine zE ?_|refine zK G G G ?_|refine zM ?_)
  have hrow:=isRow_block (E:=110) (b:=b) (cap:=cap) (spare:=S2) hall (by rw [hlen]; omega) hmax (by rw [hlen]; exact l2)
  rw [hlen] at hrow
  exact ⟨[_],_,_,⟨rfl,trivial⟩,hrow,yK.out⟩
theorem insertAtSes_spec (w0:World) (es:List (List Value)) (v:Value) (h:Hp) (bv i:Nat) (kc:List Value) (hr:isRow 110 4 es v h) (hi:i≤es.length) (h1:∀ n∈es,∀ u∈n,u.oneCell'=true)
  (hk:kc.length=4) (hk1:∀ u∈kc,u.oneCell'=true) (hlim:es.length≤1000000000) :
  Spec Tryz.prog w0 223 [v,.int .i64 (i:Int),.slice (some ⟨bv,0,none⟩) 1 1] (h+pt bv (.cells kc.toArray 110 (0,0)))
   (fun r h'=>isRow 110 4 (es.take i++kc::es.drop i) r h'):=by
 rcases Nat.lt_or_ge i es.length with hlt|hge
 ·obtain ⟨b,cap,spare,rfl,rfl,h2,h3,h4,h5⟩:=hr.nonempty (by intro e; subst e; simp at hlt)
  exact insertSes_spec w0 b cap bv i es spare kc hlt h2 h1 h3 h4 h5 hk hk1 hlim
 ·obtain rfl:i=es.length:=by omega
  obtain ⟨a,c,rfl⟩:=hr.shape
  have hkc1:∀ n∈[kc],∀ u∈n,u.oneCell'=true:=by intro n hn; rw [List.mem_singleton] at hn; subst hn; exact hk1
  refine zN Tryz.func223 G Tryz.ntmps223 Tryz.results223 G fun fr=>?_
  repeat (first|refine zF ?_|refine zB ?_|refine zE ?_|refine zK G G G ?_)
  refine yH G G (pv_slice_l (l:=es.length) G G (by omega)) ?_
  repeat (first|refine zF ?_|refine zB ?_|refine zE ?_|refine zK G G G ?_|refine L_len G G G ?_)
  refine L_no G G (pv_eql G G) (by decide) ?_
  repeat (first|refine zF ?_|refine zB ?_|refine zE ?_|refine zK G G G ?_|refine L_len G G G ?_|refine zP ?_|refine zI G ?_)
  refine L_yes G G (pv_eql G G) G ?_
  repeat (first|refine zF ?_|refine zB ?_|refine zE ?_|refine zK G G G ?_|refine zJ G ?_)
  refine L_eff G G (ev_append (xs:=es) (h:=h) (ns:=[kc]) G G hr (rd_one hk) hkc1 G G G (by simp only [List.length_singleton]; omega)) ?_
  rintro v' _ ⟨h',hr',rfl⟩
  repeat (first|refine zE ?_|refine zK G G G ?_|refine zM ?_)
  rw [show es++[kc]=es.take es.length++kc::es.drop es.length by simp] at hr'
  exact ⟨[_],h',_,⟨rfl,trivial⟩,hr',yK.out⟩
end Sl
end Go.Proofs.YtpkealohodeifaaGreat
namespace Go.Proofs.YtpkealohodeifaaGreat
open Go Go.RowKit
namespace Sl
set_option maxHeartbeats 4000000
set_option maxRecDepth 4000
attribute [local irreducible] Hold HoldL HoldW
theorem indexFuncI_spec (w0:World) (X:Hp) (v:Value) (xs:List Int) (k0:Nat) [hf:Fun Tryz.prog k0] (caps:List Value) (p:Int→Bool) (hv:RdL w0 X v xs) (hl:xs.length≤1000000000)
  (hp:∀ x∈xs,Spec Tryz.prog w0 k0 (.int .i64 x::caps) X (fun r h'=>r=.bool (p x)∧X=h')) :
  Spec Tryz.prog w0 225 [v,.func (.func k0) #[] caps.toArray] X (fun r h'=>r=.int .i64 (idxF p xs)∧X=h'):=by
 obtain ⟨a,c,rfl⟩:=hv.shape
 refine zN Tryz.func225 G Tryz.ntmps225 Tryz.results225 G fun fr=>?_
 repeat (first|refine zF ?_|refine zR ?_|refine zB ?_|refine zE ?_|refine zK G G G ?_|refine L_len G G G ?_)
 refine hold_count xs.length (fun k g L=>∃ R:Hp,g=[(0,.slice a xs.length c),(1,.func (.func k0) #[] caps.toArray),(7,.int .i64 xs.length),(8,.int .i64 k)]∧L=X+fr+R∧∀ x∈xs.take k,p x=false) _ ⟨0,rfl,(yB _).symm,by simp⟩ (by repeat (first|exact zT _|refine zO G ?_)) ?_
 rintro k g L hk ⟨R,rfl,rfl,hpre⟩
 repeat (first|refine zF ?_|refine zB ?_)
 refine yG G G (pv_lss G G) (fun h2=>?_) (fun h2=>?_)
 ·have hx:k<xs.length:=by omega
  obtain ⟨b2,o2,rfl,e,rfl,hat⟩:=hv.at hx
  repeat (first|refine zF ?_|refine zR ?_|refine zB ?_|refine zE ?_|refine zK G G G ?_|refine zP ?_|refine zJ G ?_|refine L_idx G G (by omega) G G ?_|refine L_at G (by assumption) G G G G ?_)
  refine zY G G (zQ G G (by simp<;>rfl)) (hp xs[k] (List.getElem_mem hx)) ?_
  rintro _ _ ⟨rfl,rfl⟩
  cases h3:p xs[k]
  ·repeat (first|refine zB ?_|refine zE ?_|refine zK G G G ?_|refine zP ?_|refine zI G ?_|refine L_add G G (by omega) (by omega) G G ?_)
   exact ⟨hx,_,(by repeat (first|exact zT _|refine zO G ?_)),_,rfl,yK.out,all_take_succ hx hpre h3⟩
  ·repeat (first|refine zF ?_|refine zB ?_|refine zE ?_|refine zK G G G ?_|refine zM ?_|refine zJ G ?_)
   exact ⟨[_],X,_,⟨rfl,trivial⟩,⟨by rw [idxF_hit hx h3 hpre]; rfl,rfl⟩,yK.out⟩
 ·repeat (first|refine zF ?_|refine yD ?_|refine zB ?_|refine zE ?_|refine zK G G G ?_|refine zM ?_|refine zI G ?_)
  rw [List.take_of_length_le (by omega)] at hpre
  exact ⟨[_],X,_,⟨rfl,trivial⟩,⟨by rw [idxF_miss hpre]; rfl,rfl⟩,yK.out⟩
theorem containsFuncI_spec (w0:World) (X:Hp) (v:Value) (xs:List Int) (k0:Nat) [hf:Fun Tryz.prog k0] (caps:List Value) (p:Int→Bool) (hv:RdL w0 X v xs) (hl:xs.length≤1000000000)
  (hp:∀ x∈xs,Spec Tryz.prog w0 k0 (.int .i64 x::caps) X (fun r h'=>r=.bool (p x)∧X=h')) :
  Spec Tryz.prog w0 172 [v,.func (.func k0) #[] caps.toArray] X (fun r h'=>r=.bool (xs.any p)∧X=h'):=by
 have hi:=indexFuncI_spec w0 X v xs k0 caps p hv hl hp
 obtain ⟨a,c,rfl⟩:=hv.shape
 refine zN Tryz.func172 G Tryz.ntmps172 Tryz.results172 G fun fr=>?_
 repeat (first|refine zF ?_|refine zB ?_|refine zE ?_|refine zK G G G ?_)
 refine zY G G (zQ G G G) hi ?_
 rintro _ _ ⟨rfl,rfl⟩
 refine yH G G (pv_geq G G) ?_
 repeat (first|refine zE ?_|refine zK G G G ?_|refine zM ?_)
 exact ⟨[_],X,_,⟨rfl,trivial⟩,⟨by rw [idxF_nonneg]; rfl,rfl⟩,yK.out⟩
theorem lessI_spec (w0:World) (x y:Int):Spec Tryz.prog w0 257 [.int .i64 x,.int .i64 y] 0 (fun r h'=>r=.bool (decide (x<y))∧0=h'):=by
 refine zN Tryz.func257 G Tryz.ntmps257 Tryz.results257 G fun fr=>?_
 repeat (first|refine zF ?_|refine zB ?_|refine zE ?_|refine zK G G G ?_)
 refine zY G G (zQ G G G) (isNaN_spec w0 x) ?_
 rintro _ _ ⟨rfl,rfl⟩
 repeat (first|refine zK G G G ?_|refine L_skip G G ?_)
 refine yH G G (pv_lss G G) ?_
 repeat (first|refine zE ?_|refine zK G G G ?_|refine zM ?_)
 exact ⟨[_],0,_,⟨rfl,trivial⟩,⟨rfl,rfl⟩,yK.out⟩
theorem sisNaN_spec (w0:World) (x:Int):Spec Tryz.prog w0 258 [.int .i64 x] 0 (fun r h'=>r=.bool false∧0=h'):=by
 refine zN Tryz.func258 G Tryz.ntmps258 Tryz.results258 G fun fr=>?_
 repeat (first|refine zF ?_|refine zB ?_|refine zE ?_|refine zK G G G ?_)
 refine L_no G G (pv_neq G G) (by simp) ?_
 repeat (first|refine zE ?_|refine zK G G G ?_|refine zM ?_)
 exact ⟨[_],0,_,⟨rfl,trivial⟩,⟨rfl,rfl⟩,yK.out⟩
theorem binarySearchI_spec (w0:World) (X:Hp) (v:Value) (xs:List Int) (t:Int) (hv:RdL w0 X v xs) (hl:xs.length≤1000000000) :
  Spec Tryz.prog w0 228 [v,.int .i64 t] X (fun r h'=>∃ i:Nat,r=.tuple #[.int .i64 (i:Int),.bool (foundAt (fun x=>x - t) xs i)]∧BsAt (fun x=>decide (x<t)) xs i∧X=h'):=by
 obtain ⟨a,cc,rfl⟩:=hv.shape
 refine zN Tryz.func228 G Tryz.ntmps228 Tryz.results228 G fun fr=>?_
 repeat (first|refine zF ?_|refine zR ?_|refine zB ?_|refine zE ?_|refine zK G G G ?_|refine L_len G G G ?_)
 refine hold_loop (fun m g L=>∃ (i j:Nat) (R:Hp),i≤j∧j≤xs.length∧m=j - i∧g=[(0,.slice a xs.length cc),(1,.int .i64 t),(6,.int .i64 xs.length),(7,.int .i64 i),(8,.int .i64 j)]∧L=X+fr+R ∧
   (∀ h:0<i∧i - 1<xs.length,xs[i - 1]<t)∧(∀ h:j<xs.length,¬ xs[j]<t)) _ _ ⟨0,xs.length,0,by omega,by omega,rfl,rfl,(yB _).symm,fun h=>absurd h.1 (by omega),fun h=>absurd h (by omega)⟩ (by repeat (first|exact zT _|refine zO G ?_)) ?_
 rintro m g L ⟨i,j,R,hij,hjn,rfl,rfl,rfl,hlo,hhi⟩
 repeat (first|refine zF ?_|refine zB ?_|refine zK G G G ?_)
 refine yG G G (pv_lss G G) (fun h2=>?_) (fun h2=>?_)
 ·have hx:(i+j) / 2<xs.length:=by omega
  obtain ⟨b2,o2,rfl,e,rfl,hat⟩:=hv.at hx
  repeat (first|refine zF ?_|refine zR ?_|refine zB ?_|refine zE ?_|refine zK G G G ?_|refine zP ?_|refine zJ G ?_|refine L_add G G (by omega) (by omega) G G ?_)
  refine yH G G (pv_conv_to G (m:=((i+j:Nat):Int)) (by rw [u64_in (by omega) (by omega)]; omega)) ?_
  refine yH G G (pv_shr1 G G) ?_
  refine yH G G (pv_conv_in G (by omega) (by omega)) ?_
  repeat (first|refine zF ?_|refine zB ?_|refine zE ?_|refine zK G G G ?_|refine L_idx G G (by omega) G G ?_|refine L_at G (by assumption) G G G G ?_)
  refine zY G G (zQ G G G) (lessI_spec w0 _ t) ?_
  rintro _ _ ⟨rfl,rfl⟩
  by_cases h3:xs[(i+j) / 2]<t
  ·rw [decide_eq_true h3]
   repeat (first|refine zB ?_|refine zE ?_|refine zK G G G ?_|refine zJ G ?_|refine L_add G G (by omega) (by omega) G G ?_)
   exact ⟨j - ((i+j) / 2+1),_,by omega,(by repeat (first|exact zT _|refine zO G ?_)),(i+j) / 2+1,j,_,by omega,by omega,rfl,rfl,yK.out,fun h=>by simpa using h3,hhi⟩
  ·rw [decide_eq_false h3]
   repeat (first|refine zB ?_|refine zE ?_|refine zK G G G ?_|refine zI G ?_)
   exact ⟨(i+j) / 2 - i,_,by omega,(by repeat (first|exact zT _|refine zO G ?_)),i,(i+j) / 2,_,by omega,by omega,rfl,rfl,yK.out,hlo,fun h=>h3⟩
 ·obtain rfl:i=j:=by omega
  have hbs:BsAt (fun x=>decide (x<t)) xs i:=⟨hjn,fun h=>by simpa using hlo h,fun h=>by simpa using hhi h⟩
  repeat (first|refine zF ?_|refine yD ?_|refine zB ?_|refine zE ?_|refine zK G G G ?_|refine zI G ?_)
  refine yG G G (pv_lss G G) (fun h3=>?_) (fun h3=>?_)
  ·have hx:i<xs.length:=by omega
   obtain ⟨b2,o2,rfl,e,rfl,hat⟩:=hv.at hx
   repeat (first|refine zK G G G ?_|refine L_idx G G (by omega) G G ?_|refine L_at G (by assumption) G G G G ?_)
   refine yG G G (pv_eql G G) (fun h4=>?_) (fun h4=>?_)
   ·repeat (first|refine zE ?_|refine zK G G G ?_|refine L_skip G G ?_|refine zM ?_)
    exact ⟨[_,_],X,_,⟨rfl,rfl,trivial⟩,⟨i,by rw [foundAt,dif_pos hx,decide_eq_true (by omega)]; rfl,hbs,rfl⟩,yK.out⟩
   ·repeat (first|refine zK G G G ?_|refine L_idx G G (by omega) G G ?_|refine L_at G (by assumption) G G G G ?_)
    refine zY G G (zQ G G G) (sisNaN_spec w0 _) ?_
    rintro _ _ ⟨rfl,rfl⟩
    repeat (first|refine zE ?_|refine zK G G G ?_|refine L_skip G G ?_|refine zM ?_)
    exact ⟨[_,_],X,_,⟨rfl,rfl,trivial⟩,⟨i,by rw [foundAt,dif_pos hx,decide_eq_false (by omega)]; rfl,hbs,rfl⟩,yK.out⟩
  ·repeat (first|refine zE ?_|refine zK G G G ?_|refine L_skip G G ?_|refine zM ?_)
   exact ⟨[_,_],X,_,⟨rfl,rfl,trivial⟩,⟨i,by rw [foundAt,dif_neg (by omega)]; rfl,hbs,rfl⟩,yK.out⟩
theorem deleteFuncI_spec (w0:World) (X:Hp) (xs:List Int) (v:Value) (h:Hp) (k0:Nat) [hf:Fun Tryz.prog k0] (caps:List Value) (p:Int→Bool) (hr:OwL w0 X xs v h) (hl:xs.length≤1000000000)
  (hp:∀ x∈xs,Spec Tryz.prog w0 k0 (.int .i64 x::caps) X (fun r h'=>r=.bool (p x)∧X=h')) :
  Spec Tryz.prog w0 230 [v,.func (.func k0) #[] caps.toArray] (X+h) (fun r h'=>∃ h2,OwL w0 X (xs.filter fun x=>!p x) r h2∧X+h2=h'):=by
 have hif:=indexFuncI_spec w0 (X+h) v xs k0 caps p hr.rd0 hl (fun x hx=>Spec.frameL G (hp x hx))
 obtain ⟨es,h1,h2⟩:=id hr
 obtain ⟨a,c,rfl⟩:=hr.shape
 have hlen:=h2.length
 refine zN Tryz.func230 G Tryz.ntmps230 Tryz.results230 G fun fr=>?_
 repeat (first|refine zF ?_|refine zB ?_|refine zE ?_|refine zK G G G ?_)
 refine zY G G (zQ G G G) hif ?_
 rintro _ _ ⟨rfl,rfl⟩
 repeat (first|refine zF ?_|refine zB ?_|refine zE ?_|refine zK G G G ?_)
 rcases idxF_cases p xs with ⟨hi,hall⟩|⟨i0,hi0,hi,hpi,hall⟩
 ·rw [hi]
  refine L_yes G G (pv_eql G G) G ?_
  repeat (first|refine zF ?_|refine zB ?_|refine zE ?_|refine zK G G G ?_|refine zM ?_|refine zJ G ?_)
  exact ⟨[_],X+h,_,⟨rfl,trivial⟩,⟨h,by rw [List.filter_eq_self.2 (fun x hx=>by rw [hall x hx]; rfl)]; exact hr,rfl⟩,yK.out⟩
 ·rw [hi]
  refine L_no G G (pv_eql G G) (by omega) ?_
  repeat (first|refine zF ?_|refine zR ?_|refine zB ?_|refine zE ?_|refine zK G G G ?_|refine zP ?_|refine zI G ?_|refine L_add G G (by omega) (by omega) G G ?_)
  obtain ⟨b,cap,spare,e1,rfl,hes,hcap,hmax,hsp⟩:=h1.nonempty (by intro e; subst e; simp at hlen; omega)
  simp only [Value.slice.injEq] at e1
  obtain ⟨rfl,-,rfl⟩:=e1
  rw [hlen] at hcap hsp
  change spare.length=(c - xs.length)*1 at hsp
  have hei0:i0<es.length:=by omega
  refine hold_loop (fun m g L=>∃ (i j:Nat) (fs ms:List (List Value)) (R:Hp),fs.length=i∧i+ms.length=j∧i<j∧j≤xs.length∧m=xs.length - j ∧
    g=[(0,.slice (some ⟨b,0,none⟩) xs.length c),(1,.func (.func k0) #[] caps.toArray),(5,.int .i64 i),(6,.int .i64 j)] ∧
    All2 (Rep.rd w0 X) ((xs.take j).filter fun x=>!p x) fs∧(∀ e∈ms,e.length=1) ∧
    L=X+pt b (.cells ((fs++(ms++es.drop j)).flatten++spare).toArray 3 (0,0))+fr+R) _ _
   ⟨i0,i0+1,es.take i0,[es[i0]],0,by rw [List.length_take]; omega,by simp,by omega,by omega,rfl,rfl,?_,?_,?_⟩ (by repeat (first|exact zT _|refine zO G ?_)) ?_
  ·rw [List.take_succ_eq_append_getElem hi0,List.filter_append,List.filter_cons,hpi,List.filter_nil]
   simp only [Bool.not_true,Bool.false_eq_true,if_false,List.append_nil]
   rw [List.filter_eq_self.2 (fun x hx=>by rw [hall x hx]; rfl)]
   exact h2.take i0
  ·intro e he
   rw [List.mem_singleton] at he; subst he
   exact hes _ (List.getElem_mem hei0)
  ·rw [show es.take i0++([es[i0]]++es.drop (i0+1))=es by rw [List.singleton_append,← List.drop_eq_getElem_cons hei0,List.take_append_drop],yB]
   rfl
  rintro m g L ⟨i,j,fs,ms,R,rfl,hms,hij,hj,rfl,rfl,hfs,hmz,rfl⟩
  have hfl:∀ e∈fs,e.length=1:=hfs.lens
  have hcur:∀ e∈fs++(ms++es.drop j),e.length=1:=by
   intro e he
   rcases List.mem_append.1 he with he|he
   ·exact hfl e he
   ·rcases List.mem_append.1 he with he|he
    ·exact hmz e he
    ·exact hes e (List.mem_of_mem_drop he)
  repeat (first|refine zF ?_|refine zB ?_|refine zK G G G ?_|refine L_len G G G ?_)
  refine yG G G (pv_lss G G) (fun n2=>?_) (fun n2=>?_)
  ·have hx:j<xs.length:=by omega
   obtain ⟨e,hej,hre⟩:=h2.get hx
   have hcj:(fs++(ms++es.drop j))[j]?=some e:=by
    rw [List.getElem?_append_right (by omega),List.getElem?_append_right (by omega),List.getElem?_drop,← hej]
    congr 1; omega
   have hat:At w0 _ b (0+j*1) e:=at_row (spare:=spare) (E:=3) (fz:=(0,0)) hcur hcj
   have hd:es.drop j=e::es.drop (j+1):=by
    have:j<es.length:=by omega
    rw [List.drop_eq_getElem_cons this]
    rw [List.getElem?_eq_getElem this] at hej
    rw [Option.some.inj hej]
   have htk:(xs.take (j+1)).filter (fun x=>!p x)=(xs.take j).filter (fun x=>!p x)++(if p xs[j]=true then [] else [xs[j]]):=by
    rw [List.take_succ_eq_append_getElem hx,List.filter_append]
    congr 1
    by_cases h:p xs[j]=true<;>simp [h]
   have hel:=Rep.len hre
   obtain rfl:e=[.int .i64 xs[j]]:=hre
   repeat (first|refine zF ?_|refine zR ?_|refine zB ?_|refine zE ?_|refine zK G G G ?_|refine zP ?_|refine zJ G ?_|refine L_idx G G (by omega) G G ?_|refine L_at G (by assumption) G G G G ?_)
   refine zY G G (zQ G G (by simp<;>rfl)) (hp xs[j] (List.getElem_mem hx)) ?_
   rintro _ _ ⟨rfl,rfl⟩
   cases h3:p xs[j]
   ·rw [if_neg (by rw [h3]; simp)] at htk
    obtain ⟨r0,rs,hr0,hrl,ms',hms',hml⟩:∃ r0 rs,ms++es.drop j=r0::rs∧r0.length=1∧∃ ms',rs=ms'++es.drop (j+1)∧ms'.length=ms.length:=by
     cases ms with
     | nil=>exact ⟨_,_,hd,hel,[],rfl,rfl⟩
     | cons m0 ms1=>exact ⟨m0,ms1++es.drop j,rfl,hmz m0 (by simp),ms1++(es.drop j).take 1,by rw [hd]; simp,by rw [hd]; simp⟩
    have hmz':∀ e∈ms',e.length=1:=by
     intro e' he'
     exact hcur e' (List.mem_append_right _ (by rw [hr0,hms']; exact List.mem_cons_of_mem _ (List.mem_append_left _ he')))
    rw [hr0]
    repeat (first|refine zF ?_|refine zB ?_|refine zE ?_|refine zK G G G ?_|refine zJ G ?_|refine L_idx G G (by omega) G G ?_)
    refine L_eff G G (ev_store (c:=(fs++r0::rs).flatten++spare) (c':=(fs++[[Value.int .i64 xs[j]]]++rs).flatten++spare) G G G G (set_row1_get hfl hrl) (set_row1 hfl hrl)) ?_
    rintro _ _ rfl
    repeat (first|refine zB ?_|refine zE ?_|refine zK G G G ?_|refine L_add G G (by omega) (by omega) G G ?_)
    exact ⟨xs.length - (j+1),_,by omega,(by repeat (first|exact zT _|refine zO G ?_)),fs.length+1,j+1,fs++[_],ms',_,by simp,by omega,by omega,by omega,rfl,rfl,by rw [htk]; exact hfs.append (All2.one G),hmz',by rw [← hms']; exact yK.out⟩
   ·rw [if_pos h3,List.append_nil] at htk
    repeat (first|refine zB ?_|refine zE ?_|refine zK G G G ?_|refine zP ?_|refine zI G ?_|refine L_add G G (by omega) (by omega) G G ?_)
    refine ⟨xs.length - (j+1),_,by omega,(by repeat (first|exact zT _|refine zO G ?_)),fs.length,j+1,fs,ms++[_],_,rfl,by simp; omega,by omega,by omega,rfl,rfl,by rw [htk]; exact hfs,?_,by rw [List.append_assoc ms,List.singleton_append,← hd]; exact yK.out⟩
    intro e' he'
    rcases List.mem_append.1 he' with he'|he'
    ·exact hmz e' he'
    ·rw [List.mem_singleton] at he'; subst he'; exact hel
  ·obtain rfl:j=xs.length:=by omega
   rw [List.take_length] at hfs
   rw [List.drop_of_length_le (by omega),List.append_nil]
   repeat (first|refine zF ?_|refine yD ?_|refine zB ?_|refine zE ?_|refine zK G G G ?_|refine zI G ?_)
   refine yH G G (pv_slice_l (l:=fs.length) G G (by omega)) ?_
   rw [shiftA_some (b:=b) (l:=fs.length) (cap:=c) (by omega)]
   have lf:fs.flatten.length=fs.length*1:=length_flat hfl
   have lm:ms.flatten.length=ms.length*1:=length_flat hmz
   refine L_eff G G (ev_clearZ G G G (by rw [List.length_append,List.flatten_append,List.length_append,lf,lm]; omega)) ?_
   rintro _ _ ⟨zs,hzs,rfl⟩
   rw [show 0+fs.length*1=fs.flatten.length by omega,List.flatten_append,List.append_assoc,splice_append ms.flatten zs (by rw [lm,hzs]; omega) spare]
   repeat (first|refine zF ?_|refine zB ?_|refine zE ?_|refine zK G G G ?_)
   refine yH G G (pv_slice_h (m:=fs.length) G G (by omega)) ?_
   repeat (first|refine zE ?_|refine zK G G G ?_|refine zM ?_)
   exact ⟨[_],X+pt b (.cells (fs.flatten++(zs++spare)).toArray 3 (0,0)),_,⟨rfl,trivial⟩,⟨_,⟨fs,isRow_block (E:=3) (b:=b) hfl (by omega) hmax (by rw [List.length_append,hzs,hsp]; show _=(c - fs.length)*1; omega),hfs⟩,rfl⟩,yK.out⟩
end Sl
end Go.Proofs.YtpkealohodeifaaGreat
namespace Go.Proofs.YtpkealohodeifaaGreat
open Go Go.RowKit
namespace Sl
set_option maxHeartbeats 4000000
set_option maxRecDepth 4000
attribute [local irreducible] Hold HoldL HoldW
theorem pv_arrayAt {P:Program} {g:Env} {arr e:TypeId} {n:Nat} [hu:Und P arr (.array n e)] {x:Operand} {a:Option Addr} {len cap:Nat} (hx:ev g x=some (.slice a len cap)) (hn:n≤len):PV P g (.sliceToArrayPointer arr x) (.pointer a):=by
 intro o ac w m ho ha; unfold execOp
 simp only [ho,ha.ev hx,run_arrayAt (h:=hu.out) (hn:=hn),Sem.run_bind,Result.andThen_ok,Sem.run_pure]
def cells4 (a b c d:Bt):List Value:=[.int .u8 (a.val:Int),.int .u8 (b.val:Int),.int .u8 (c.val:Int),.int .u8 (d.val:Int)]
theorem len4 {bs:List Bt} (h:bs.length=4):∃ a b c d,bs=[a,b,c,d]:=by
 match bs,h with
 | [a,b,c,d],_=>exact ⟨a,b,c,d,rfl⟩
theorem of_spec (w0:World) (X:Hp) (v:Value) (x0 x1 x2 x3:Bt) (hv:RdL w0 X v [x0,x1,x2,x3]) :
  Spec Tryz.prog w0 242 [v] X (fun r h'=>r=.agg (cells4 x0 x1 x2 x3).toArray∧X=h'):=by
 obtain ⟨es,h1,h2⟩:=id hv
 rw [rdB_enc] at h2
 subst h2
 obtain ⟨a,c,rfl,h3⟩:=id h1
 obtain ⟨b,o,rfl,h4⟩:=h3.2 0 _ rfl
 have hat:At w0 X b o (cells4 x0 x1 x2 x3):=by
  intro j u hu
  have key:∀ (i:Nat) (u:Value),([x0,x1,x2,x3].map cellB)[i]?=some [u]→Reads w0 X ⟨b,o+i,none⟩ u:=by
   intro i u hi
   obtain ⟨b',o',e,hr⟩:=h3.2 i _ hi
   cases e
   have:=hr 0 u G
   change Reads w0 X ⟨_,_+i*1+0,none⟩ u at this
   simpa using this
  match j,hu with
  | 0,hu=>exact key 0 u (by simpa [cells4,cellB] using hu)
  | 1,hu=>exact key 1 u (by simpa [cells4,cellB] using hu)
  | 2,hu=>exact key 2 u (by simpa [cells4,cellB] using hu)
  | 3,hu=>exact key 3 u (by simpa [cells4,cellB] using hu)
  | j+4,hu=>simp [cells4] at hu
 unfold cells4 at hat ⊢
 refine zN Tryz.func242 G Tryz.ntmps242 Tryz.results242 G fun fr=>?_
 repeat (first|refine zF ?_|refine zB ?_|refine zE ?_|refine zK G G G ?_|refine L_alloc (c:=[_,_,_,_]) G G G (fun _=>?_))
 refine yH G G (pv_arrayAt G (by simp)) ?_
 repeat (first|refine zE ?_|refine zM ?_|refine L_atA G (by assumption) G G G G ?_|refine L_stA G (vs:=[_,_,_,_]) G G G G (c':=[_,_,_,_]) G G ?_)
 exact ⟨[_],X,_,⟨⟨_,rfl,zL G G G⟩,trivial⟩,⟨rfl,rfl⟩,yK.out⟩
def In64 (l:List Blk):Prop:=∀ x∈l,0≤x.no∧x.no<64
theorem find19a_spec (w0:World) (X:Hp) (x:Blk) (no:Int) (vd:Value) (hx:0≤x.no∧x.no<64) (hn:-1000000000≤no∧no≤1000000000) :
  Spec Tryz.prog w0 176 [.agg [.int .i64 x.no,vd].toArray,.int .i64 no] X (fun r h'=>r=.int .i64 (x.no - no)∧X=h'):=by
 refine zN Tryz.func176 G Tryz.ntmps176 Tryz.results176 G fun fr=>?_
 repeat (first|refine zF ?_|refine zB ?_|refine zE ?_|refine zK G G G ?_|refine zZ G G G G G ?_|refine L_ld G G G G G ?_|refine zM ?_|refine L_sub G G (by omega) (by omega) G G ?_|refine L_box G (c:=[_,_]) G G G (fun _=>?_))
 exact ⟨[_],X,_,⟨rfl,trivial⟩,⟨rfl,rfl⟩,yK.out⟩
theorem find19_spec (w0:World) (X:Hp) (v:Value) (l:List Blk) (no:Int) (hv:RdL w0 X v l) (hl:l.length≤1000000000) (hb:In64 l) (hn:-1000000000≤no∧no≤1000000000) :
  Spec Tryz.prog w0 120 [v,.int .i64 no] X (fun r h'=>∃ i:Nat,r=.tuple #[.int .i64 (i:Int),.bool (foundAt (fun x:Blk=>x.no - no) l i)]∧BsAt (fun x=>decide (x.no - no<0)) l i∧X=h'):=by
 have hs:=binarySearchFuncBlk_spec w0 X v (.int .i64 no) l 176 [] (fun x=>x.no - no) hv hl (by
  rintro Y x e hx ⟨a,c,rfl,_⟩
  exact find19a_spec w0 X x no _ (hb x hx) hn)
 obtain ⟨a,c,rfl⟩:=hv.shape
 refine zN Tryz.func120 G Tryz.ntmps120 Tryz.results120 G fun fr=>?_
 repeat (first|refine zF ?_|refine zB ?_|refine zE ?_|refine zK G G G ?_)
 refine zY G G (zQ G G G) hs ?_
 rintro _ _ ⟨i,rfl,hbs,rfl⟩
 repeat (first|refine zE ?_|refine zK G G G ?_|refine zM ?_)
 exact ⟨[_,_],X,_,⟨rfl,rfl,trivial⟩,⟨i,rfl,hbs,rfl⟩,yK.out⟩
theorem fresh_spec (w0:World) (X:Hp) (v:Value) (l:List Blk) (hv:RdL w0 X v l) (hl:l.length≤1000000000) (hd:∀ x∈l,x.data.length≤1000000000) :
  Spec Tryz.prog w0 240 [v] X (fun r h'=>∃ E h,OwL w0 E l r h∧X+(E+h)=h'):=by
 obtain ⟨a,c,rfl⟩:=hv.shape
 refine zN Tryz.func240 G Tryz.ntmps240 Tryz.results240 G fun fr=>?_
 repeat (first|refine zF ?_|refine zR ?_|refine zB ?_|refine zE ?_|refine zK G G G ?_|refine L_len G G G ?_)
 refine hold_count l.length (fun k g L=>∃ (vo:Value) (E h R:Hp),g=[(3,vo),(6,.slice a l.length c),(7,.int .i64 l.length),(8,.int .i64 k)]∧OwL w0 E (l.take k) vo h∧L=X+E+h+fr+R) _
  ⟨.slice none 0 0,0,0,0,rfl,OwL.nil _ _,by simp only [yB]⟩ (by repeat (first|exact zT _|refine zO G ?_)) ?_
 rintro k g L hk ⟨vo,E,h,R,rfl,ho,rfl⟩
 repeat (first|refine zF ?_|refine zB ?_)
 refine yG G G (pv_lss G G) (fun h2=>?_) (fun h2=>?_)
 ·have hx:k<l.length:=by omega
  obtain ⟨b2,o2,rfl,e,⟨a3,c3,rfl,hdat⟩,hat⟩:=hv.at hx
  repeat (first|refine zF ?_|refine zR ?_|refine zB ?_|refine zE ?_|refine zP ?_|refine zJ G ?_|refine L_idx G G (by omega) G G ?_|refine L_atA G (by assumption) G G G G ?_|refine L_stA G (vs:=[_,_]) G G G G (c':=[_,_]) G G ?_|refine L_alloc (c:=[_,_]) G G G (fun _=>?_))
  refine yC [5,7,8] [0,1,2,3,4,5,6,7,8,9] (by kernel_rfl) G (by kernel_rfl) (by kernel_rfl) ?_
  repeat (first|refine yI G G G G G ?_|refine yE G G G G (yA G G G) ?_|refine W_load G G G G (yF G) (zG G (zS G)) ?_)
  refine W_call G G G G (zQ G G G) (cloneB_spec w0 X _ _ hdat (by have:=hd _ (List.getElem_mem hx); omega)) (Kept.all _) ?_
  rintro vc _ ⟨hc,hcl,rfl⟩
  obtain ⟨a4,c4,rfl⟩:=hcl.shape
  refine ⟨(by repeat (first|exact trivial|exact zG G (zS G)|exact zL G G G|exact zX G (by assumption) G|exact zH G (by assumption) G|exact zH G (by assumption) (by assumption)|refine ⟨?_,?_⟩)),?_⟩
  repeat (refine yE G G G G (pv_build (vs:=[_,_]) (cells:=[_,_]) G G) ?_)
  refine W_eff G G G G (ev_buildSlice (vs:=[_]) (cells:=[_,_]) G G G G) (Kept.all _) ?_
  rintro _ _ ⟨b5,rfl,rfl⟩
  refine ⟨(by repeat (first|exact trivial|exact zG G (zS G)|exact zL G G G|exact zX G (by assumption) G|exact zH G (by assumption) G|exact zH G (by assumption) (by assumption)|refine ⟨?_,?_⟩)),?_⟩
  have hnew:Rep.rd w0 (E+hc) l[k] [.int .i64 l[k].no,.slice a4 l[k].data.length c4]:=⟨a4,c4,rfl,hcl.plainB.rd (X:=0) (R:=E)⟩
  refine W_eff G G G G (ev_appendL (X:=E+hc) (ns:=[l[k]]) (h:=h) G G (ho.mono G) (rd_one G) (All2.one hnew) G G G G G (by simp only [List.length_take,List.length_singleton]; omega)) (Kept.all _) ?_
  rintro vo' _ ⟨h',ho',rfl⟩
  refine ⟨(by repeat (first|exact trivial|exact zG G (zS G)|exact zL G G G|exact zX G (by assumption) G|exact zH G (by assumption) G|exact zH G (by assumption) (by assumption)|refine ⟨?_,?_⟩)),?_⟩
  repeat (first|refine yJ ?_|refine yI G G G G G ?_)
  repeat (first|refine zB ?_|refine zE ?_|refine zK G G G ?_|refine L_add G G (by omega) (by omega) G G ?_)
  rw [← List.take_succ_eq_append_getElem hx] at ho'
  exact ⟨hx,_,(by repeat (first|exact zT _|refine zO G ?_)),vo',E+hc,h',_,rfl,ho',yK.out⟩
 ·repeat (first|refine zF ?_|refine yD ?_|refine zB ?_|refine zE ?_|refine zK G G G ?_|refine zM ?_|refine zI G ?_)
  rw [List.take_of_length_le (by omega)] at ho
  exact ⟨[_],X+(E+h),_,⟨rfl,trivial⟩,⟨E,h,ho,rfl⟩,yK.out⟩
end Sl
end Go.Proofs.YtpkealohodeifaaGreat
namespace Go.Proofs.YtpkealohodeifaaGreat
open Go Go.RowKit
namespace Sl
set_option maxHeartbeats 4000000
set_option maxRecDepth 4000
attribute [local irreducible] Hold HoldL HoldW
def zeros4 :List Bt:=[0,0,0,0]
def OkB (l:List Blk):Prop:=(∀ x∈l,0≤x.no∧x.no<64∧x.data.length=4∧x.data≠zeros4)∧l.Pairwise (fun a b=>a.no<b.no)
theorem OkB.in64 {l:List Blk} (h:OkB l):In64 l:=fun x hx=>⟨(h.1 x hx).1,(h.1 x hx).2.1⟩
theorem rise_len {α:Type} (key:α→Int):∀ (l:List α) (lo hi:Int),lo≤hi→l.Pairwise (fun a b=>key a<key b)→(∀ x∈l,lo≤key x∧key x<hi)→(l.length:Int)≤hi - lo
 | [],lo,hi,h,_,_=>by simp; omega
 | x::l,lo,hi,h,hp,hb=>by
  have hx:=hb x (by simp)
  obtain ⟨h1,h2⟩:=List.pairwise_cons.1 hp
  have:=rise_len key l (key x+1) hi (by omega) h2 (fun y hy=>⟨by have:=h1 y hy; omega,(hb y (by simp [hy])).2⟩)
  simp only [List.length_cons]; omega
theorem OkB.len {l:List Blk} (h:OkB l):l.length≤64:=by
 have:=rise_len Blk.no l 0 64 (by omega) h.2 (fun x hx=>h.in64 x hx)
 omega
def getB (l:List Blk) (no:Int):List Bt:=match l.find? (fun x=>decide (x.no=no)) with|some x=>x.data|none=>zeros4
theorem getB_len {l:List Blk} (h:OkB l) (no:Int):(getB l no).length=4:=by
 unfold getB
 split
 ·rename_i x hx; exact (h.1 x (List.mem_of_find?_eq_some hx)).2.2.1
 ·rfl
theorem getB_out {l:List Blk} (h:OkB l) {no:Int} (hn:no<0∨64≤no):getB l no=zeros4:=by
 unfold getB
 rw [List.find?_eq_none.2 (fun x hx=>by have:=h.in64 x hx; simp; omega)]
theorem zrow (b:Nat) {w0:World} {X:Hp}:OwL w0 X zeros4 (.slice (some ⟨b,0,none⟩) 4 4) (pt b (.cells (List.replicate 4 (Value.cells (.int .u8 0)).toList).flatten.toArray 5 (0,0))) :=
 OwL.block (xs:=zeros4) (es:=zeros4.map cellB) (rdB_enc.2 G) (by unfold maxLen; decide)
theorem get19_spec (w0:World) (X:Hp) (v:Value) (l:List Blk) (no:Int) (hv:RdL w0 X v l) (hok:OkB l) :
  Spec Tryz.prog w0 34 [v,.int .i64 no] X (fun r h'=>∃ h,OwL w0 0 (getB l no) r h∧X+h=h'):=by
 have hlen:=hok.len
 have hfind:=fun h=>find19_spec w0 X v l no hv (by omega) hok.in64 h
 obtain ⟨a,c,rfl⟩:=hv.shape
 refine zN Tryz.func34 G Tryz.ntmps34 Tryz.results34 G fun fr=>?_
 repeat (first|refine zF ?_|refine zB ?_|refine zE ?_|refine zK G G G ?_)
 have out:∀ {g:Env} {L R:Hp},getB l no=zeros4→∀ (b:Nat),look g 4=some (.slice (some ⟨b,0,none⟩) 4 4)→L=X+pt b (.cells (List.replicate 4 (Value.cells (.int .u8 0)).toList).flatten.toArray 5 (0,0))+fr+R →
   ∃ vs h R',ResOk Tryz.prog w0 g L [.tmp 4] vs∧(∃ h2,OwL w0 0 (getB l no) (oneV vs) h2∧X+h2=h)∧L=h+fr+R':=by
  intro g L R e b hl hL
  exact ⟨[_],_,R,⟨hl,trivial⟩,⟨_,by rw [e]; exact zrow b,rfl⟩,hL⟩
 refine yG G G (pv_geq G G) (fun h1=>?_) (fun h1=>?_)
 ·repeat (refine zK G G G ?_)
  refine yG G G (pv_lss G G) (fun h2=>?_) (fun h2=>?_)
  ·repeat (first|refine zF ?_|refine zB ?_|refine zE ?_|refine zK G G G ?_|refine zJ G ?_)
   refine zY G G (zQ G G G) (hfind ⟨by omega,by omega⟩) ?_
   rintro _ _ ⟨i,rfl,hbs,rfl⟩
   cases hfd:foundAt (fun x:Blk=>x.no - no) l i
   ·obtain ⟨_,_,hnone⟩:=bs_missed hok.2 hbs hfd
    repeat (first|refine zF ?_|refine zB ?_|refine zE ?_|refine zK G G G ?_|refine zP ?_|refine zI G ?_)
    refine L_eff G G (ev_makeSlice (n:=4) G G G (by omega) (by omega)) ?_
    rintro _ _ ⟨b,rfl,rfl⟩
    repeat (first|refine zE ?_|refine zK G G G ?_|refine zM ?_)
    exact out (by unfold getB; rw [hnone]) b G yK.out
   ·obtain ⟨hx,hk,_,_,hsome⟩:=bs_found hok.2 hbs hfd
    obtain ⟨b2,o2,rfl,e,⟨a3,c3,rfl,hdat⟩,hat⟩:=hv.at hx
    repeat (first|refine zF ?_|refine zB ?_|refine zE ?_|refine zK G G G ?_|refine zZ G G G G G ?_|refine zJ G ?_|refine L_idx G G (by omega) G G ?_|refine L_atf G (by assumption) G G G G ?_)
    refine zY G G (zQ G G G) (cloneB_spec w0 X _ _ hdat (by have:=(hok.1 _ (List.getElem_mem hx)).2.2.1; omega)) ?_
    rintro vc _ ⟨hc,hcl,rfl⟩
    repeat (first|refine zE ?_|refine zK G G G ?_|refine zM ?_)
    exact ⟨[_],X+hc,_,⟨rfl,trivial⟩,⟨hc,by unfold getB; rw [hsome]; exact hcl.plainB,rfl⟩,yK.out⟩
  ·repeat (first|refine zF ?_|refine zB ?_|refine zE ?_|refine zK G G G ?_|refine zP ?_|refine zI G ?_)
   refine L_eff G G (ev_makeSlice (n:=4) G G G (by omega) (by omega)) ?_
   rintro _ _ ⟨b,rfl,rfl⟩
   repeat (first|refine zE ?_|refine zK G G G ?_|refine zM ?_)
   exact out (getB_out hok (by omega)) b G yK.out
 ·repeat (first|refine zF ?_|refine zB ?_|refine zE ?_|refine zK G G G ?_|refine L_skip G G ?_|refine zP ?_|refine zI G ?_)
  refine L_eff G G (ev_makeSlice (n:=4) G G G (by omega) (by omega)) ?_
  rintro _ _ ⟨b,rfl,rfl⟩
  repeat (first|refine zE ?_|refine zK G G G ?_|refine zM ?_)
  exact out (getB_out hok (by omega)) b G yK.out
def newB (no:Int) (b:List Bt):List Blk:=if b=zeros4 then [] else [⟨no,b⟩]
def setB (l:List Blk) (no:Int) (b:List Bt):List Blk :=
 if 0≤no∧no<64∧b.length=4 then l.filter (fun x=>decide (x.no<no))++newB no b++l.filter (fun x=>decide (no<x.no)) else l
theorem eq4 (x0 x1 x2 x3:Bt):(decide ((x0.val:Int)=0)&&(decide ((x1.val:Int)=0)&&(decide ((x2.val:Int)=0)&&(decide ((x3.val:Int)=0)&&true))))=decide ([x0,x1,x2,x3]=zeros4):=by
 unfold zeros4
 rw [Bool.and_true,← Bool.decide_and,← Bool.decide_and,← Bool.decide_and]
 refine decide_eq_decide.2 ?_
 simp only [List.cons.injEq,and_true,Fin.ext_iff]
 constructor
 ·rintro ⟨h0,h1,h2,h3⟩; exact ⟨by show _=0; omega,by show _=0; omega,by show _=0; omega,by show _=0; omega⟩
 ·rintro ⟨h0,h1,h2,h3⟩
  have h0:x0.val=0:=h0
  have h1:x1.val=0:=h1
  have h2:x2.val=0:=h2
  have h3:x3.val=0:=h3
  omega
theorem set19_spec (w0:World) (X:Hp) (v u:Value) (l:List Blk) (no:Int) (b:List Bt) (hv:RdL w0 X v l) (hok:OkB l) (hu:RdL w0 X u b) (hbl:b.length≤1000000000) :
  Spec Tryz.prog w0 202 [v,.int .i64 no,u] X (fun r h'=>∃ E h,OwL w0 E (setB l no b) r h∧X+(E+h)=h'):=by
 have hlen:=hok.len
 have hfresh:=fresh_spec w0 X v l hv (by omega) (fun x hx=>by have:=(hok.1 x hx).2.2.1; omega)
 obtain ⟨a,c,rfl⟩:=hv.shape
 obtain ⟨au,cu,rfl⟩:=hu.shape
 refine zN Tryz.func202 G Tryz.ntmps202 Tryz.results202 G fun fr=>?_
 repeat (first|refine zF ?_|refine zB ?_|refine zE ?_|refine zK G G G ?_)
 refine zY G G (zQ G G G) hfresh ?_
 rintro vf _ ⟨E,h,ho,rfl⟩
 repeat (first|refine zF ?_|refine zB ?_|refine zE ?_|refine zK G G G ?_)
 have out:¬ (0≤no∧no<64∧b.length=4)→OwL w0 E (setB l no b) vf h:=fun hn=>by unfold setB; rw [if_neg hn]; exact ho
 refine yG G G (pv_lss G G) (fun h1=>?_) (fun h1=>?_)
 ·repeat (first|refine zF ?_|refine zB ?_|refine zE ?_|refine zK G G G ?_|refine L_skip G G ?_|refine zM ?_|refine zJ G ?_)
  exact ⟨[_],X+(E+h),_,⟨rfl,trivial⟩,⟨E,h,out (by omega),rfl⟩,yK.out⟩
 ·repeat (refine zK G G G ?_)
  refine yG G G (pv_geq G G) (fun h2=>?_) (fun h2=>?_)
  ·repeat (first|refine zF ?_|refine zB ?_|refine zE ?_|refine zK G G G ?_|refine L_skip G G ?_|refine zM ?_|refine zJ G ?_)
   exact ⟨[_],X+(E+h),_,⟨rfl,trivial⟩,⟨E,h,out (by omega),rfl⟩,yK.out⟩
  ·repeat (first|refine zK G G G ?_|refine L_len G G G ?_)
   refine yG G G (pv_neq G G) (fun h3=>?_) (fun h3=>?_)
   ·repeat (first|refine zF ?_|refine zB ?_|refine zE ?_|refine zK G G G ?_|refine zM ?_|refine zJ G ?_)
    exact ⟨[_],X+(E+h),_,⟨rfl,trivial⟩,⟨E,h,out (by omega),rfl⟩,yK.out⟩
   ·have hb4:b.length=4:=by omega
    obtain ⟨x0,x1,x2,x3,rfl⟩:=len4 hb4
    obtain ⟨es,h5,h6⟩:=id ho
    obtain ⟨af,cf,rfl⟩:=ho.shape
    repeat (first|refine zF ?_|refine zB ?_|refine zE ?_|refine zK G G G ?_|refine zP ?_|refine zI G ?_)
    refine zY G G (zQ G G G) (find19_spec w0 (E+h) _ l no ho.rd0 (by omega) hok.in64 ⟨by omega,by omega⟩) ?_
    rintro _ _ ⟨i,rfl,hbs,rfl⟩
    repeat (first|refine zF ?_|refine zB ?_|refine zE ?_|refine zK G G G ?_)
    refine hold_join (fun g' L'=>∃ (es':List (List Value)) (vr:Value) (hr R':Hp),Sub g' [(0,vr),(1,.int .i64 no),(2,.slice au [x0,x1,x2,x3].length cu),(7,.int .i64 i)]∧isRow 153 2 es' vr hr ∧
     All2 (Rep.rd w0 E) (l.filter (fun x=>decide (x.no<no))++l.filter (fun x=>decide (no<x.no))) es'∧(l.filter (fun x=>decide (x.no<no))).length=i∧L'=X+E+hr+fr+R') ?_ ?_
    ·cases hfd:foundAt (fun x:Blk=>x.no - no) l i
     ·obtain ⟨hlo,hhi,_⟩:=bs_missed hok.2 hbs hfd
      repeat (first|refine zP ?_|refine zI G ?_)
      exact ⟨es,_,h,_,(by repeat (first|exact zT _|refine zO G ?_)),h5,by rw [← hlo,← hhi,List.take_append_drop]; exact h6,by rw [← hlo,List.length_take]; have:=hbs.1; omega,yK.out⟩
     ·obtain ⟨hx,hk,hlo,hhi,_⟩:=bs_found hok.2 hbs hfd
      repeat (first|refine zB ?_|refine zK G G G ?_|refine zJ G ?_|refine L_add G G (by omega) (by omega) G G ?_)
      have hes:=h6.length
      refine zY G G (zQ G G G) (deleteAtBlk_spec w0 es _ h i h5 (by omega) h6.ones (by omega)) ?_
      rintro vr hr hrow
      repeat (first|refine zE ?_|refine zK G G G ?_)
      exact ⟨_,vr,hr,_,(by repeat (first|exact zT _|refine zO G ?_)),hrow,by rw [← hlo,← hhi,← List.eraseIdx_eq_take_drop_succ]; exact h6.erase i,by rw [← hlo,List.length_take]; omega,yK.out⟩
    ·rintro g' _ ⟨es',vr,hr,R',hsub,hrow,hall,hli,rfl⟩
     refine hold_env hsub ?_
     clear hsub g'
     have hset:setB l no [x0,x1,x2,x3]=l.filter (fun x=>decide (x.no<no))++newB no [x0,x1,x2,x3]++l.filter (fun x=>decide (no<x.no)):=by unfold setB; rw [if_pos ⟨by omega,by omega,rfl⟩]
     obtain ⟨ar,cr,rfl⟩:=hrow.shape
     repeat (first|refine zF ?_|refine zB ?_|refine zK G G G ?_)
     refine zY G G (zQ G G G) (of_spec w0 X _ x0 x1 x2 x3 hu) ?_
     rintro _ _ ⟨rfl,rfl⟩
     refine yH G G (pv_buildArr (vs:=[]) (cells:=[_,_,_,_]) G G) ?_
     refine L_bool G G (pv_eql_array (r:=(decide ((x0.val:Int)=0)&&(decide ((x1.val:Int)=0)&&(decide ((x2.val:Int)=0)&&(decide ((x3.val:Int)=0)&&true))))) G G (by kernel_rfl) (by kernel_rfl)) (fun h7=>?_) (fun h7=>?_)
     ·rw [eq4] at h7
      have hz:=of_decide_eq_true h7
      repeat (first|refine zF ?_|refine zB ?_|refine zE ?_|refine zK G G G ?_|refine zM ?_|refine zJ G ?_)
      exact ⟨[_],X+(E+hr),_,⟨rfl,trivial⟩,⟨E,hr,by rw [hset,newB,if_pos hz,List.append_nil]; exact ⟨es',hrow,hall⟩,rfl⟩,yK.out⟩
     ·rw [eq4] at h7
      have hz:=of_decide_eq_false h7
      repeat (first|refine zF ?_|refine zB ?_|refine zE ?_|refine zK G G G ?_|refine zP ?_|refine zI G ?_)
      refine zY G G (zQ G G G) (cloneB_spec w0 X _ _ hu (by simp)) ?_
      rintro vc _ ⟨hc,hcl,rfl⟩
      obtain ⟨a4,c4,rfl⟩:=hcl.shape
      repeat (first|refine L_build (vs:=[_,_]) (cells:=[_,_]) G G G G ?_|refine L_bs (vs:=[_]) (cells:=[_,_]) G G G G G G (fun _=>?_))
      rename_i bn
      have hnew:Rep.rd w0 (E+hc) (⟨no,[x0,x1,x2,x3]⟩:Blk) [.int .i64 no,.slice a4 [x0,x1,x2,x3].length c4]:=⟨a4,c4,rfl,hcl.plainB.rd (X:=0) (R:=E)⟩
      have hfl:(l.filter (fun x=>decide (x.no<no))).length≤l.length:=List.length_filter_le _ _
      have hfl2:(l.filter (fun x=>decide (no<x.no))).length≤l.length:=List.length_filter_le _ _
      have hes':=hall.length
      rw [List.length_append] at hes'
      refine zY G G (zQ G G G) (insertAtBlk_spec w0 es' _ hr bn i _ hrow (by omega) hall.ones (Rep.len hnew) (Rep.one hnew) (by omega)) ?_
      rintro vn hn hrown
      repeat (first|refine zE ?_|refine zK G G G ?_|refine zM ?_)
      refine ⟨[_],X+((E+hc)+hn),_,⟨rfl,trivial⟩,⟨E+hc,hn,?_,rfl⟩,yK.out⟩
      rw [hset,newB,if_neg hz,List.append_assoc]
      refine ⟨_,hrown,?_⟩
      have hall':=hall.mono (S:=Rep.rd w0 (E+hc)) (fun x e he=>Rep.mono G he)
      have e1:=hall'.take i
      have e2:=hall'.drop i
      rw [← hli,List.take_left] at e1
      rw [← hli,List.drop_left] at e2
      rw [← hli]
      exact e1.append (ys:=_::_) ⟨hnew,e2⟩
end Sl
end Go.Proofs.YtpkealohodeifaaGreat
namespace Go.Proofs.YtpkealohodeifaaGreat
open Go Go.RowKit
namespace Sl
set_option maxHeartbeats 4000000
set_option maxRecDepth 4000
attribute [local irreducible] Hold HoldL HoldW
theorem take_filter_snoc {α:Type} (p:α→Bool) {l:List α} {k:Nat} (hx:k<l.length):(l.take (k+1)).filter p=(l.take k).filter p++(if p l[k]=true then [l[k]] else []):=by
 rw [List.take_succ_eq_append_getElem hx,List.filter_append]
 congr 1
 by_cases h:p l[k]=true<;>simp [h]
theorem part19_spec (w0:World) (X:Hp) (v:Value) (l:List Blk) (k0:Nat) [hf:Fun Tryz.prog k0] (caps:List Value) (p:Int→Bool) (hv:RdL w0 X v l) (hl:l.length≤1000000000) (hd:∀ x∈l,x.data.length≤1000000000)
  (hp:∀ x∈l,Spec Tryz.prog w0 k0 (.int .i64 x.no::caps) X (fun r h'=>r=.bool (p x.no)∧X=h')) :
  Spec Tryz.prog w0 247 [v,.func (.func k0) #[] caps.toArray] X (fun r h'=>∃ E h,OwL w0 E (l.filter fun x=>p x.no) r h∧X+(E+h)=h'):=by
 obtain ⟨a,c,rfl⟩:=hv.shape
 refine zN Tryz.func247 G Tryz.ntmps247 Tryz.results247 G fun fr=>?_
 repeat (first|refine zF ?_|refine zR ?_|refine zB ?_|refine zE ?_|refine zK G G G ?_|refine L_len G G G ?_)
 refine hold_count l.length (fun k g L=>∃ (vo:Value) (h R:Hp),g=[(1,.func (.func k0) #[] caps.toArray),(5,vo),(8,.slice a l.length c),(9,.int .i64 l.length),(10,.int .i64 k)]∧OwL w0 X ((l.take k).filter fun x=>p x.no) vo h∧L=X+h+fr+R) _
  ⟨.slice none 0 0,0,0,rfl,OwL.nil _ _,by simp only [yB]⟩ (by repeat (first|exact zT _|refine zO G ?_)) ?_
 rintro k g L hk ⟨vo,h,R,rfl,ho,rfl⟩
 repeat (first|refine zF ?_|refine zB ?_)
 refine yG G G (pv_lss G G) (fun h2=>?_) (fun h2=>?_)
 ·have hx:k<l.length:=by omega
  obtain ⟨b2,o2,rfl,e,he,hat⟩:=hv.at hx
  obtain ⟨a3,c3,rfl,hdat⟩:=id he
  have htk:=take_filter_snoc (fun x:Blk=>p x.no) hx
  repeat (first|refine zF ?_|refine zR ?_|refine zB ?_|refine zE ?_|refine zK G G G ?_|refine zZ G G G G G ?_|refine L_ld G G G G G ?_|refine zP ?_|refine zJ G ?_|refine L_idx G G (by omega) G G ?_|refine L_atA G (by assumption) G G G G ?_|refine L_stA G (vs:=[_,_]) G G G G (c':=[_,_]) G G ?_|refine L_alloc (c:=[_,_]) G G G (fun _=>?_))
  refine zY G G (zQ G G (by simp<;>rfl)) (hp l[k] (List.getElem_mem hx)) ?_
  rintro _ _ ⟨rfl,rfl⟩
  cases hpk:p l[k].no
  ·rw [if_neg (by simp [hpk]),List.append_nil] at htk
   repeat (first|refine zB ?_|refine zE ?_|refine zK G G G ?_|refine zP ?_|refine zI G ?_|refine L_add G G (by omega) (by omega) G G ?_)
   exact ⟨hx,_,(by repeat (first|exact zT _|refine zO G ?_)),vo,h,_,rfl,by rw [htk]; exact ho,yK.out⟩
  ·rw [if_pos hpk] at htk
   repeat (first|refine zB ?_|refine zE ?_|refine zK G G G ?_|refine zJ G ?_|refine L_ldA G (vs:=[_,_]) G G G G G ?_|refine L_bs (vs:=[_]) (cells:=[_,_]) G G G G G G (fun _=>?_))
   refine L_eff G G (ev_appendL (X:=X) (ns:=[l[k]]) (h:=h) G G ho (rd_one G) (All2.one he) G G G G G (by have:=List.length_filter_le (fun x:Blk=>p x.no) (l.take k); rw [List.length_take] at this; simp only [List.length_singleton]; omega)) ?_
   rintro vo' _ ⟨h',ho',rfl⟩
   repeat (first|refine zB ?_|refine zE ?_|refine zK G G G ?_|refine L_add G G (by omega) (by omega) G G ?_)
   exact ⟨hx,_,(by repeat (first|exact zT _|refine zO G ?_)),vo',h',_,rfl,by rw [htk]; exact ho',yK.out⟩
 ·rw [List.take_of_length_le (by omega)] at ho
  have hfl:=List.length_filter_le (fun x:Blk=>p x.no) l
  obtain ⟨ao,co,rfl⟩:=ho.shape
  repeat (first|refine zF ?_|refine yD ?_|refine zB ?_|refine zE ?_|refine zK G G G ?_|refine zI G ?_)
  refine zY G G (zQ G G G) (fresh_spec w0 (X+h) _ _ ho.rd0 (by omega) (fun x hx=>hd x ((List.mem_filter.1 hx).1))) ?_
  rintro vf _ ⟨E,h3,ho3,rfl⟩
  repeat (first|refine zE ?_|refine zK G G G ?_|refine zM ?_)
  exact ⟨[_],X+(E+h3),_,⟨rfl,trivial⟩,⟨E,h3,ho3,rfl⟩,yK.out⟩
def inS (lo hi no:Int):Bool:=decide (lo≤no∧no<hi)
abbrev spanAt (b:Nat) (lo hi:Int):Hp:=pt b (.cells [.int .i64 lo,.int .i64 hi].toArray 70 (0,0))
theorem inside1_spec (w0:World) (b:Nat) (lo hi no:Int):Spec Tryz.prog w0 273 [.int .i64 no,.pointer (some ⟨b,0,none⟩)] (spanAt b lo hi) (fun r h'=>r=.bool (inS lo hi no)∧spanAt b lo hi=h'):=by
 unfold spanAt
 refine zN Tryz.func273 G Tryz.ntmps273 Tryz.results273 G fun fr=>?_
 repeat (first|refine zF ?_|refine zB ?_|refine zE ?_|refine zK G G G ?_|refine zZ G G G G G ?_|refine L_ld G G G G G ?_)
 refine yG G G (pv_geq G G) (fun h1=>?_) (fun h1=>?_)
 ·repeat (first|refine zK G G G ?_|refine zZ G G G G G ?_|refine L_ld G G G G G ?_)
  refine yG G G (pv_lss G G) (fun h2=>?_) (fun h2=>?_)
  ·repeat (first|refine zE ?_|refine zK G G G ?_|refine zM ?_)
   exact ⟨[_],_,_,⟨rfl,trivial⟩,⟨by unfold inS; rw [decide_eq_true ⟨h1,h2⟩]; rfl,rfl⟩,yK.out⟩
  ·repeat (first|refine zE ?_|refine zK G G G ?_|refine zM ?_)
   exact ⟨[_],_,_,⟨rfl,trivial⟩,⟨by unfold inS; rw [decide_eq_false (fun h=>h2 h.2)]; rfl,rfl⟩,yK.out⟩
 ·repeat (first|refine zE ?_|refine zK G G G ?_|refine L_skip G G ?_|refine zM ?_)
  exact ⟨[_],_,_,⟨rfl,trivial⟩,⟨by unfold inS; rw [decide_eq_false (fun h=>h1 h.1)]; rfl,rfl⟩,yK.out⟩
theorem inside_spec (w0:World) (lo hi:Int):Spec Tryz.prog w0 248 [.agg [.int .i64 lo,.int .i64 hi].toArray] 0
  (fun r h'=>∃ b,r=.func (.func 273) #[] [.pointer (some ⟨b,0,none⟩)].toArray∧spanAt b lo hi=h'):=by
 refine zN Tryz.func248 G Tryz.ntmps248 Tryz.results248 G fun fr=>?_
 repeat (first|refine zF ?_|refine zB ?_|refine zE ?_|refine zK G G G ?_|refine zM ?_|refine L_box G (c:=[_,_]) G G G (fun _=>?_)|refine L_clo G G G ?_)
 rename_i b
 exact ⟨[_],spanAt b lo hi,_,⟨rfl,trivial⟩,⟨b,rfl,rfl⟩,yK.out⟩
theorem in19_spec (w0:World) (X:Hp) (v:Value) (l:List Blk) (lo hi:Int) (hv:RdL w0 X v l) (hl:l.length≤1000000000) (hd:∀ x∈l,x.data.length≤1000000000) :
  Spec Tryz.prog w0 212 [v,.agg [.int .i64 lo,.int .i64 hi].toArray] X (fun r h'=>∃ E h,OwL w0 E (l.filter fun x=>inS lo hi x.no) r h∧X+(E+h)=h'):=by
 obtain ⟨a,c,rfl⟩:=hv.shape
 refine zN Tryz.func212 G Tryz.ntmps212 Tryz.results212 G fun fr=>?_
 repeat (first|refine zF ?_|refine zB ?_|refine zE ?_|refine zK G G G ?_|refine L_ldA G (vs:=[_,_]) G G G G G ?_|refine L_box G (c:=[_,_]) G G G (fun _=>?_))
 refine zY G G (zQ G G G) (inside_spec w0 lo hi) ?_
 rintro _ _ ⟨b,rfl,rfl⟩
 refine zY G G (zQ G G G) (part19_spec w0 (X+spanAt b lo hi) _ l 273 [.pointer (some ⟨b,0,none⟩)] (inS lo hi) (hv.frame) hl hd (fun x hx=>Spec.frameL (hadd_comm _ _) (inside1_spec w0 b lo hi x.no))) ?_
 rintro vo _ ⟨E,h,ho,rfl⟩
 repeat (first|refine zE ?_|refine zK G G G ?_|refine zM ?_)
 exact ⟨[_],X+(E+h),_,⟨rfl,trivial⟩,⟨E,h,ho,rfl⟩,yK.out⟩
theorem without19a_spec (w0:World) (b b5:Nat) (lo hi no:Int) :
  Spec Tryz.prog w0 249 [.int .i64 no,.pointer (some ⟨b5,0,none⟩)] (spanAt b lo hi+pt b5 (.cells [.func (.func 273) #[] [.pointer (some ⟨b,0,none⟩)].toArray].toArray 180 (0,0)))
   (fun r h'=>r=.bool (!inS lo hi no)∧spanAt b lo hi+pt b5 (.cells [.func (.func 273) #[] [.pointer (some ⟨b,0,none⟩)].toArray].toArray 180 (0,0))=h'):=by
 refine zN Tryz.func249 G Tryz.ntmps249 Tryz.results249 G fun fr=>?_
 repeat (first|refine zF ?_|refine zB ?_|refine zE ?_|refine zK G G G ?_|refine L_ld G G G G G ?_)
 refine zY G G (zQ G G (by simp<;>rfl)) (inside1_spec w0 b lo hi no) ?_
 rintro _ _ ⟨rfl,rfl⟩
 repeat (first|refine zE ?_|refine zK G G G ?_|refine zM ?_)
 exact ⟨[_],_,_,⟨rfl,trivial⟩,⟨rfl,rfl⟩,yK.out⟩
theorem without19_spec (w0:World) (X:Hp) (v:Value) (l:List Blk) (lo hi:Int) (hv:RdL w0 X v l) (hl:l.length≤1000000000) (hd:∀ x∈l,x.data.length≤1000000000) :
  Spec Tryz.prog w0 213 [v,.agg [.int .i64 lo,.int .i64 hi].toArray] X (fun r h'=>∃ E h,OwL w0 E (l.filter fun x=>!inS lo hi x.no) r h∧X+(E+h)=h'):=by
 obtain ⟨a,c,rfl⟩:=hv.shape
 refine zN Tryz.func213 G Tryz.ntmps213 Tryz.results213 G fun fr=>?_
 repeat (first|refine zF ?_|refine zB ?_|refine zE ?_|refine zK G G G ?_|refine L_ldA G (vs:=[_,_]) G G G G G ?_|refine L_box G (c:=[_,_]) G G G (fun _=>?_))
 refine zY G G (zQ G G G) (inside_spec w0 lo hi) ?_
 rintro _ _ ⟨b,rfl,rfl⟩
 repeat (first|refine zF ?_|refine zB ?_|refine zE ?_|refine zK G G G ?_|refine L_st G G G (c':=[_]) G G G G ?_|refine L_alloc (c:=[_]) G G G (fun _=>?_)|refine L_clo G G G ?_)
 rename_i b5
 refine zY G G (zQ G G G) (part19_spec w0 (X+(spanAt b lo hi+pt b5 (.cells [.func (.func 273) #[] [.pointer (some ⟨b,0,none⟩)].toArray].toArray 180 (0,0)))) _ l 249 [.pointer (some ⟨b5,0,none⟩)] (fun n=>!inS lo hi n) (hv.frame) hl hd
  (fun x hx=>Spec.frameL (hadd_comm _ _) (without19a_spec w0 b b5 lo hi x.no))) ?_
 rintro vo _ ⟨E,h,ho,rfl⟩
 repeat (first|refine zE ?_|refine zK G G G ?_|refine zM ?_)
 exact ⟨[_],X+(E+h),_,⟨rfl,trivial⟩,⟨E,h,ho,rfl⟩,yK.out⟩
theorem setB_ok {l:List Blk} (h:OkB l) (no:Int) (b:List Bt):OkB (setB l no b):=by
 unfold setB
 split
 ·rename_i hn
  obtain ⟨h1,h2,h3⟩:=hn
  have hp:=h.2
  constructor
  ·intro x hx
   rcases List.mem_append.1 hx with hx|hx
   ·rcases List.mem_append.1 hx with hx|hx
    ·exact h.1 x ((List.mem_filter.1 hx).1)
    ·unfold newB at hx
     split at hx
     ·cases hx
     ·rename_i hz
      rw [List.mem_singleton] at hx; subst hx
      exact ⟨h1,h2,h3,hz⟩
   ·exact h.1 x ((List.mem_filter.1 hx).1)
  ·have hlo:∀ x∈l.filter (fun x=>decide (x.no<no)),x.no<no:=fun x hx=>of_decide_eq_true (List.mem_filter.1 hx).2
   have hhi:∀ x∈l.filter (fun x=>decide (no<x.no)),no<x.no:=fun x hx=>of_decide_eq_true (List.mem_filter.1 hx).2
   have hn:∀ x∈newB no b,x.no=no:=by
    intro x hx
    unfold newB at hx
    split at hx
    ·cases hx
    ·rw [List.mem_singleton] at hx; subst hx; rfl
   rw [List.pairwise_append,List.pairwise_append]
   refine ⟨⟨hp.filter _,?_,?_⟩,hp.filter _,?_⟩
   ·unfold newB; split<;>simp
   ·intro x hx y hy; rw [hn y hy]; exact hlo x hx
   ·intro x hx y hy
    rcases List.mem_append.1 hx with hx|hx
    ·have:=hlo x hx; have:=hhi y hy; omega
    ·rw [hn x hx]; exact hhi y hy
 ·exact h
def joinB (l m:List Blk):List Blk:=m.foldl (fun l x=>setB l x.no x.data) l
theorem joinB_ok :∀ (m:List Blk) {l:List Blk},OkB l→OkB (joinB l m)
 | [],_,h=>h
 | x::m,l,h=>joinB_ok m (l:=setB l x.no x.data) (setB_ok h _ _)
theorem join19_spec (w0:World) (X:Hp) (v u:Value) (l m:List Blk) (hv:RdL w0 X v l) (hok:OkB l) (hu:RdL w0 X u m) (hm:m.length≤1000000000) (hd:∀ x∈m,x.data.length≤1000000000) :
  Spec Tryz.prog w0 217 [v,u] X (fun r h'=>∃ E h,OwL w0 E (joinB l m) r h∧X+(E+h)=h'):=by
 have hlen:=hok.len
 have hfresh:=fresh_spec w0 X v l hv (by omega) (fun x hx=>by have:=(hok.1 x hx).2.2.1; omega)
 obtain ⟨a,c,rfl⟩:=hv.shape
 obtain ⟨a2,c2,rfl⟩:=hu.shape
 refine zN Tryz.func217 G Tryz.ntmps217 Tryz.results217 G fun fr=>?_
 repeat (first|refine zF ?_|refine zB ?_|refine zE ?_|refine zK G G G ?_)
 refine zY G G (zQ G G G) hfresh ?_
 rintro vf _ ⟨E,h,ho,rfl⟩
 repeat (first|refine zF ?_|refine zR ?_|refine zB ?_|refine zE ?_|refine zK G G G ?_|refine L_len G G G ?_)
 refine hold_count m.length (fun k g L=>∃ (vo:Value) (E h R:Hp),g=[(5,vo),(10,.slice a2 m.length c2),(11,.int .i64 m.length),(12,.int .i64 k)]∧OwL w0 E (joinB l (m.take k)) vo h∧L=X+E+h+fr+R) _
  ⟨vf,E,h,0,rfl,ho,by simp only [yB]; ac_rfl⟩ (by repeat (first|exact zT _|refine zO G ?_)) ?_
 clear ho h E vf
 rintro k g L hk ⟨vo,E,h,R,rfl,ho,rfl⟩
 have hok2:=joinB_ok (m.take k) hok
 have hlen2:=hok2.len
 repeat (first|refine zF ?_|refine zB ?_)
 refine yG G G (pv_lss G G) (fun h2=>?_) (fun h2=>?_)
 ·have hx:k<m.length:=by omega
  obtain ⟨b2,o2,rfl,e,he,hat⟩:=hu.at hx
  obtain ⟨a3,c3,rfl,hdat⟩:=id he
  obtain ⟨ao,co,rfl⟩:=ho.shape
  repeat (first|refine zF ?_|refine zR ?_|refine zB ?_|refine zE ?_|refine zK G G G ?_|refine zZ G G G G G ?_|refine L_ld G G G G G ?_|refine zP ?_|refine zJ G ?_|refine L_idx G G (by omega) G G ?_|refine L_atA G (by assumption) G G G G ?_|refine L_stA G (vs:=[_,_]) G G G G (c':=[_,_]) G G ?_|refine L_alloc (c:=[_,_]) G G G (fun _=>?_))
  refine zY G G (zQ G G G) (set19_spec w0 (X+(E+h)) _ _ (joinB l (m.take k)) m[k].no m[k].data (ho.rd (R:=X)) hok2 (hdat.frame) (by have:=hd _ (List.getElem_mem hx); omega)) ?_
  rintro vs _ ⟨E2,h2,ho2,rfl⟩
  repeat (first|refine zB ?_|refine zE ?_|refine zK G G G ?_|refine L_add G G (by omega) (by omega) G G ?_)
  refine ⟨hx,_,(by repeat (first|exact zT _|refine zO G ?_)),vs,E2,h2,_,rfl,?_,yK.out⟩
  rw [List.take_succ_eq_append_getElem hx,joinB,List.foldl_append]
  exact ho2
 ·rw [List.take_of_length_le (by omega)] at ho
  repeat (first|refine zF ?_|refine yD ?_|refine zB ?_|refine zE ?_|refine zK G G G ?_|refine zM ?_|refine zI G ?_)
  exact ⟨[_],X+(E+h),_,⟨rfl,trivial⟩,⟨E,h,ho,rfl⟩,yK.out⟩
end Sl
end Go.Proofs.YtpkealohodeifaaGreat
namespace Go.Proofs.YtpkealohodeifaaGreat
open Go Go.RowKit
namespace Sl
section
variable {P:Program} {w0:World} {L:Hp} {g:Env}
theorem ev_makeSliceC {t e:TypeId} [hu:Und P t (.slice e)] {sz by':Nat} {z:Value} [hi:Inf P e sz by' z] {x y:Operand} {m n:Nat}
  (hx:ev g x=some (.int .i64 (m:Int))) (hy:ev g y=some (.int .i64 (n:Int))) (hmn:m≤n) (hz:(z.cells.size==sz)=true) (hb:by'*n≤281474976710656) (hn:n≤9223372036854775807) :
  EV P w0 L g (.makeSlice t x y) fun u L'=>∃ b,u=.slice (some ⟨b,0,none⟩) m n∧L'=pt b (.cells (List.replicate n z.cells.toList).flatten.toArray e (0,0))+L:=by
 intro o a w n' ho ha hst
 obtain ⟨i,h1,h2,h3,h4⟩:=hi.out
 refine ⟨.slice (some ⟨w.heap.size,0,none⟩) m n,w.alloc (.cells (List.replicate n z.cells.toList).flatten.toArray e),_,.inl ?_,⟨_,rfl,rfl⟩,hst.alloc _⟩
 have hw:IntKind.i64.wrap (n:Int)=(n:Int):=IntWalk.i64_in _ ⟨by omega,by omega⟩
 have hw':IntKind.i64.wrap (m:Int)=(m:Int):=IntWalk.i64_in _ ⟨by omega,by omega⟩
 have hzs:z.cells.size=sz:=by simpa using hz
 have hnew:∀ c:Array Value,(newRow e c).run P w=.ok ⟨w.heap.size,0,none⟩ (w.alloc (.cells c e)):=fun _=>rfl
 have hbi:¬ ((i.bytes:Int)*(n:Int) > 2 ^ 48):=by
  rw [h3]
  have:((by'*n:Nat):Int)≤281474976710656:=by omega
  rw [Int.natCast_mul] at this
  omega
 have hcells:∀ zz:Array Value,(n*i.size≠0→zz=z.cells)→((Array.range (n*i.size)).map (zz[· % zz.size]!))=(List.replicate n z.cells.toList).flatten.toArray:=by
  intro zz hzz
  by_cases h0:n*i.size=0
  ·rw [h0]
   have:(List.replicate n z.cells.toList).flatten=[]:=by
    apply List.eq_nil_of_length_eq_zero
    simp [hzs,← h2,h0]
   rw [this]; have er:Array.range 0=#[]:=rfl
   rw [er]; simp
  ·rw [hzz h0,← zeros_eq z.cells n i.size (by rw [hzs,h2])]
 unfold execOp
 simp only [ho,ha.ev hx,ha.ev hy,Instr.makeSlice,Sem.run_bind,run_underlying hu.out,Result.andThen_ok,asInt,asIntOf,Sem.run_pure,typeInfo,run_program,h1,hw,hw']
 have hc1:((n:Int)<0)=False:=by simp
 have hc3:((m:Int)<0)=False:=by simp
 have hc2:((m:Int) > (n:Int))=False:=by simp; omega
 simp only [hc1,hc2,hc3,hbi,decide_false,Bool.or_self,Bool.false_eq_true,if_false,Sem.run_bind,Int.toNat_natCast,run_askRoom,sizeOf,typeInfo,run_program,h1,Sem.run_pure,Result.andThen_ok]
 by_cases h0:n*i.size=0
 ·simp only [h0,if_true,Sem.run_pure,Result.andThen_ok,Sem.run_bind]
  have:=hcells #[] (fun h=>absurd h0 h)
  rw [h0] at this
  simp only [this,hnew,Result.andThen_ok,Sem.run_pure]
 ·have:=hcells z.cells (fun _=>rfl)
  simp only [h0,if_false,zeroValue,typeInfo,Sem.run_bind,run_program,h1,h4,Sem.run_pure,Result.andThen_ok,this,hnew]
theorem isRow_room {E size b n:Nat} {c:List Value} (hc:c.length=n*size) (hn:n≤maxLen):isRow E size [] (.slice (some ⟨b,0,none⟩) 0 n) (pt b (.cells c.toArray E (0,0))) :=
 ⟨by simp,.inr ⟨b,n,c,rfl,by simp,by simp,hn,by simpa using hc⟩⟩
theorem pv_fieldA {s:TypeId} {fs:Array Field} [hu:Und P s (.struct fs)] {x:Operand} {k:Nat} {nm tg pk:String} {ty:TypeId} {fo bo:Nat} {em:Bool} {d:TypeDesc} {xs vs:List Value}
  (hx:ev g x=some (.agg xs.toArray)) (hf:fs[k]?=some ⟨nm,ty,fo,em,tg,pk,bo⟩) [hd:Und P ty d] (hn:notAgg d=false) {sz by':Nat} {z:Value} [hi:Inf P ty sz by' z] (hv:(xs.drop fo).take sz=vs) (hl:(vs.length==sz)=true) :
  PV P g (.field s x k) (.agg vs.toArray):=by
 intro o a w n ho ha
 obtain ⟨i,h1,h2,_⟩:=hi.out
 unfold execOp
 subst hv
 have hh:=hd.out
 have hl':sz≤(xs.drop fo).length:=by
  have:(List.take sz (List.drop fo xs)).length=sz:=by simpa using hl
  rw [List.length_take] at this; omega
 rw [List.length_drop] at hl'
 have hex:xs.toArray.extract fo (fo+sz)=((xs.drop fo).take sz).toArray:=by
  apply Array.ext'
  simp [List.extract_eq_take_drop]
 have hag:(isAgg ty).run P w=.ok true w:=by
  cases d<;>simp_all [isAgg,run_underlying hh,notAgg]
 simp only [ho,ha.ev hx,Instr.field,run_underlying hu.out,Sem.run_bind,Result.andThen_ok,hf,asAgg,Sem.run_pure,part,hag,if_true,sizeOf,typeInfo,run_program,h1,h2,hex]
end
end Sl
end Go.Proofs.YtpkealohodeifaaGreat
namespace Go.Proofs.YtpkealohodeifaaGreat
open Go Go.RowKit
namespace Sl
set_option maxHeartbeats 4000000
set_option maxRecDepth 4000
attribute [local irreducible] Hold HoldL HoldW
def ltKey (s n s' n':Int):Prop:=s<s'∨(s=s'∧n<n')
instance (s n s' n':Int):Decidable (ltKey s n s' n'):=by unfold ltKey; infer_instance
def ltK (a b:Kpt):Prop:=ltKey a.snap a.no b.snap b.no
instance (a b:Kpt):Decidable (ltK a b):=by unfold ltK; infer_instance
def OkK (l:List Kpt):Prop:=(∀ x∈l,x.data.length=4)∧l.Pairwise ltK
def PlAt (l:List Kpt) (snap no:Int) (i:Nat):Prop:=i≤l.length∧(∀ x∈l.take i,ltKey x.snap x.no snap no)∧(∀ h:i<l.length,¬ ltKey l[i].snap l[i].no snap no)
def thereK (l:List Kpt) (snap no:Int) (i:Nat):Bool:=if h:i<l.length then decide (l[i].snap=snap∧l[i].no=no) else false
theorem all_take_succ' {α:Type} {p:α→Prop} {xs:List α} {k:Nat} (hx:k<xs.length) (h:∀ x∈xs.take k,p x) (h3:p xs[k]):∀ x∈xs.take (k+1),p x:=by
 intro x hm
 rw [List.take_succ_eq_append_getElem hx,List.mem_append,List.mem_singleton] at hm
 rcases hm with hm|rfl
 ·exact h x hm
 ·exact h3
theorem place_spec (w0:World) (X:Hp) (v:Value) (l:List Kpt) (snap no:Int) (hv:RdL w0 X v l) (hl:l.length≤1000000000) :
  Spec Tryz.prog w0 122 [v,.int .i64 snap,.int .i64 no] X (fun r h'=>∃ i:Nat,r=.tuple #[.int .i64 (i:Int),.bool (thereK l snap no i)]∧PlAt l snap no i∧X=h'):=by
 obtain ⟨a,c,rfl⟩:=hv.shape
 refine zN Tryz.func122 G Tryz.ntmps122 Tryz.results122 G fun fr=>?_
 repeat (first|refine zF ?_|refine zR ?_|refine zB ?_|refine zE ?_|refine zK G G G ?_|refine L_len G G G ?_)
 refine hold_count l.length (fun k g L=>∃ (R:Hp),g=[(0,.slice a l.length c),(1,.int .i64 snap),(2,.int .i64 no),(10,.slice a l.length c),(11,.int .i64 l.length),(12,.int .i64 k)]∧(∀ x∈l.take k,ltKey x.snap x.no snap no)∧L=X+fr+R) _
  ⟨0,rfl,by simp,(yB _).symm⟩ (by repeat (first|exact zT _|refine zO G ?_)) ?_
 rintro k g L hk ⟨R,rfl,hpre,rfl⟩
 repeat (first|refine zF ?_|refine zB ?_)
 refine yG G G (pv_lss G G) (fun h2=>?_) (fun h2=>?_)
 ·have hx:k<l.length:=by omega
  obtain ⟨b2,o2,rfl,e,⟨a3,c3,rfl,hdat⟩,hat⟩:=hv.at hx
  repeat (first|refine zF ?_|refine zR ?_|refine zB ?_|refine zE ?_|refine zK G G G ?_|refine zZ G G G G G ?_|refine L_ld G G G G G ?_|refine zP ?_|refine zJ G ?_|refine L_idx G G (by omega) G G ?_|refine L_atA G (by assumption) G G G G ?_|refine L_stA G (vs:=[_,_,_]) G G G G (c':=[_,_,_]) G G ?_|refine L_alloc (c:=[_,_,_]) G G G (fun _=>?_))
  have miss:ltKey l[k].snap l[k].no snap no→∀ x∈l.take (k+1),ltKey x.snap x.no snap no:=all_take_succ' hx hpre
  have hit:¬ ltKey l[k].snap l[k].no snap no→PlAt l snap no k:=fun h=>⟨by omega,hpre,fun _=>h⟩
  refine yG G G (pv_gtr G G) (fun h3=>?_) (fun h3=>?_)
  ·repeat (first|refine zF ?_|refine zE ?_|refine zK G G G ?_|refine L_skip G G ?_|refine zJ G ?_)
   refine yC [] [0,1,2,3,4,5,6,7,8,9,10,11,12] (by kernel_rfl) G (by kernel_rfl) (by kernel_rfl) ?_
   repeat (first|refine yI G G G G G ?_|refine yE G G G G (yA G G G) ?_|refine W_load G G G G (yF G) (zG G (zS G)) ?_)
   refine W_no G G G G (pv_eql G G) (by omega) ?_
   repeat (first|refine yJ ?_|refine yI G G G G G ?_|refine W_skip G G G G ?_)
   repeat (refine zM ?_)
   exact ⟨[_,_],X,_,⟨rfl,rfl,trivial⟩,⟨k,by rw [thereK,dif_pos hx,decide_eq_false (by omega)]; rfl,hit (by unfold ltKey; omega),rfl⟩,yK.out⟩
  ·repeat (first|refine zK G G G ?_|refine zZ G G G G G ?_|refine L_ld G G G G G ?_)
   refine yG G G (pv_eql G G) (fun h4=>?_) (fun h4=>?_)
   ·repeat (first|refine zK G G G ?_|refine zZ G G G G G ?_|refine L_ld G G G G G ?_)
    refine yG G G (pv_geq G G) (fun h5=>?_) (fun h5=>?_)
    ·repeat (first|refine zF ?_|refine zE ?_|refine zK G G G ?_|refine zJ G ?_)
     refine yC [] [0,1,2,3,4,5,6,7,8,9,10,11,12] (by kernel_rfl) G (by kernel_rfl) (by kernel_rfl) ?_
     repeat (first|refine yI G G G G G ?_|refine yE G G G G (yA G G G) ?_|refine W_load G G G G (yF G) (zG G (zS G)) ?_)
     refine W_yes G G G G (pv_eql G G) h4 ?_
     repeat (first|refine yI G G G G G ?_|refine yE G G G G (yA G G G) ?_|refine W_load G G G G (yF G) (zG G (zS G)) ?_)
     refine yE G G G G (pv_eql G G) ?_
     repeat (first|refine yJ ?_|refine yI G G G G G ?_)
     repeat (refine zM ?_)
     exact ⟨[_,_],X,_,⟨rfl,rfl,trivial⟩,⟨k,by rw [thereK,dif_pos hx]; simp only [h4,true_and]; rfl,hit (by unfold ltKey; omega),rfl⟩,yK.out⟩
    ·repeat (first|refine zB ?_|refine zE ?_|refine zK G G G ?_|refine zP ?_|refine zI G ?_|refine L_add G G (by omega) (by omega) G G ?_)
     exact ⟨hx,_,(by repeat (first|exact zT _|refine zO G ?_)),_,rfl,miss (by unfold ltKey; omega),yK.out⟩
   ·repeat (first|refine zB ?_|refine zE ?_|refine zK G G G ?_|refine L_skip G G ?_|refine zP ?_|refine zI G ?_|refine L_add G G (by omega) (by omega) G G ?_)
    exact ⟨hx,_,(by repeat (first|exact zT _|refine zO G ?_)),_,rfl,miss (by unfold ltKey; omega),yK.out⟩
 ·obtain rfl:k=l.length:=by omega
  repeat (first|refine zF ?_|refine yD ?_|refine zB ?_|refine zE ?_|refine zK G G G ?_|refine L_len G G G ?_|refine zM ?_|refine zI G ?_)
  exact ⟨[_,_],X,_,⟨rfl,rfl,trivial⟩,⟨l.length,by rw [thereK,dif_neg (by omega)]; rfl,⟨Nat.le_refl _,hpre,fun h=>absurd h (by omega)⟩,rfl⟩,yK.out⟩
theorem pl_hi {l:List Kpt} (hs:l.Pairwise ltK) {snap no:Int} {i:Nat} (h:PlAt l snap no i):∀ (j:Nat) (hj:j<l.length),i<j→ltKey snap no l[j].snap l[j].no:=by
 intro j hj hij
 have h1:=(List.pairwise_iff_getElem.1 hs) i j (by omega) hj hij
 have h2:=h.2.2 (by omega)
 unfold ltK ltKey at h1
 unfold ltKey at h2 ⊢
 omega
theorem pl_there {l:List Kpt} (hs:l.Pairwise ltK) {snap no:Int} {i:Nat} (h:PlAt l snap no i) (ht:thereK l snap no i=true) :
  ∃ hi:i<l.length,l[i].snap=snap∧l[i].no=no∧l.take i=l.filter (fun x=>decide (ltKey x.snap x.no snap no))∧l.drop (i+1)=l.filter (fun x=>decide (ltKey snap no x.snap x.no))∧l.find? (fun x=>decide (x.snap=snap∧x.no=no))=some l[i]:=by
 unfold thereK at ht
 split at ht
 ·rename_i hi
  obtain ⟨e1,e2⟩:=of_decide_eq_true ht
  have hd:l.drop i=l[i]::l.drop (i+1):=List.drop_eq_getElem_cons hi
  have hall:l=l.take i++l[i]::l.drop (i+1):=by rw [← hd,List.take_append_drop]
  have hhi:∀ x∈l.drop (i+1),ltKey snap no x.snap x.no:=by
   intro x hx
   obtain ⟨j,hj,rfl⟩:=List.getElem_of_mem hx
   rw [List.length_drop] at hj
   rw [List.getElem_drop]
   exact pl_hi hs h (i+1+j) (by omega) (by omega)
  refine ⟨hi,e1,e2,?_,?_,?_⟩
  ·conv=>rhs; rw [hall]
   refine (filter_lo (fun x hx=>decide_eq_true (h.2.1 x hx)) (fun x hx=>decide_eq_false ?_)).symm
   rcases List.mem_cons.1 hx with rfl|hx
   ·exact h.2.2 hi
   ·have:=hhi x hx; unfold ltKey at this ⊢; omega
  ·conv=>rhs; rw [← List.take_append_drop (i+1) l]
   refine (filter_hi (fun x hx=>decide_eq_false ?_) (fun x hx=>decide_eq_true (hhi x hx))).symm
   rw [List.take_succ_eq_append_getElem hi,List.mem_append,List.mem_singleton] at hx
   rcases hx with hx|rfl
   ·have:=h.2.1 x hx; unfold ltKey at this ⊢; omega
   ·unfold ltKey; omega
  ·have key2:(l.take i++l[i]::l.drop (i+1)).find? (fun x=>decide (x.snap=snap∧x.no=no))=some l[i]:=by
    rw [List.find?_append,List.find?_eq_none.2 (fun x hx=>by have:=h.2.1 x hx; unfold ltKey at this; simp; omega),Option.none_or,List.find?_cons_of_pos (by simp [e1,e2])]
   rw [← hall] at key2
   exact key2
 ·cases ht
theorem pl_missed {l:List Kpt} (hs:l.Pairwise ltK) {snap no:Int} {i:Nat} (h:PlAt l snap no i) (ht:thereK l snap no i=false) :
  l.take i=l.filter (fun x=>decide (ltKey x.snap x.no snap no))∧l.drop i=l.filter (fun x=>decide (ltKey snap no x.snap x.no))∧l.find? (fun x=>decide (x.snap=snap∧x.no=no))=none:=by
 have hhi:∀ x∈l.drop i,ltKey snap no x.snap x.no:=by
  intro x hx
  obtain ⟨j,hj,rfl⟩:=List.getElem_of_mem hx
  rw [List.length_drop] at hj
  rw [List.getElem_drop]
  rcases Nat.eq_zero_or_pos j with h0|h0
  ·subst h0
   simp only [Nat.add_zero]
   have h1:=h.2.2 (by omega)
   unfold thereK at ht
   rw [dif_pos (by omega)] at ht
   have h2:=of_decide_eq_false ht
   unfold ltKey at h1 ⊢
   omega
  ·exact pl_hi hs h (i+j) (by omega) (by omega)
 refine ⟨?_,?_,?_⟩
 ·conv=>rhs; rw [← List.take_append_drop i l]
  exact (filter_lo (fun x hx=>decide_eq_true (h.2.1 x hx)) (fun x hx=>decide_eq_false (by have:=hhi x hx; unfold ltKey at this ⊢; omega))).symm
 ·conv=>rhs; rw [← List.take_append_drop i l]
  exact (filter_hi (fun x hx=>decide_eq_false (by have:=h.2.1 x hx; unfold ltKey at this ⊢; omega)) (fun x hx=>decide_eq_true (hhi x hx))).symm
 ·rw [← List.take_append_drop i l]
  exact List.find?_eq_none.2 (fun x hx=>by
   rcases List.mem_append.1 hx with h'|h'
   ·have:=h.2.1 x h'; unfold ltKey at this; simp; omega
   ·have:=hhi x h'; unfold ltKey at this; simp; omega)
def keepK (l:List Kpt) (snap no:Int) (d:List Bt):List Kpt:=l.filter (fun x=>decide (ltKey x.snap x.no snap no))++⟨snap,no,d⟩::l.filter (fun x=>decide (ltKey snap no x.snap x.no))
theorem keep19_spec (w0:World) (X:Hp) (v u:Value) (k:List Kpt) (l:List Blk) (snap:Int) (no:Nat) (hno:no<64) (hv:RdL w0 X v k) (hok:OkK k) (hl:k.length≤1000000000) (hu:RdL w0 X u l) (hob:OkB l) :
  Spec Tryz.prog w0 203 [v,.int .i64 snap,.agg [.int .i64 (no:Int),.int .i64 ((no:Int)+1)].toArray,u] X (fun r h'=>∃ E h,OwL w0 E (keepK k snap no (getB l no)) r h∧X+(E+h)=h'):=by
 have hget:=get19_spec w0 X u l no hu hob
 obtain ⟨a,c,rfl⟩:=hv.shape
 obtain ⟨au,cu,rfl⟩:=hu.shape
 refine zN Tryz.func203 G Tryz.ntmps203 Tryz.results203 G fun fr=>?_
 repeat (first|refine zF ?_|refine zR ?_|refine zB ?_|refine zE ?_|refine zK G G G ?_|refine L_len G G G ?_|refine L_box G (c:=[_,_]) G G G (fun _=>?_))
 rename_i b6
 refine hold_count k.length (fun i g L=>∃ (vo:Value) (E h R:Hp),g=[(1,.int .i64 snap),(3,.slice au l.length cu),(6,.pointer (some ⟨b6,0,none⟩)),(9,vo),(15,.slice a k.length c),(16,.int .i64 k.length),(17,.int .i64 i)]∧OwL w0 E (k.take i) vo h ∧
   L=X+E+h+pt b6 (.cells [.int .i64 (no:Int),.int .i64 ((no:Int)+1)].toArray 70 (0,0))+fr+R) _
  ⟨.slice none 0 0,0,0,0,rfl,OwL.nil _ _,by simp only [yB]; ac_rfl⟩ (by repeat (first|exact zT _|refine zO G ?_)) ?_
 rintro i g L hi ⟨vo,E,h,R,rfl,ho,rfl⟩
 repeat (first|refine zF ?_|refine zB ?_)
 refine yG G G (pv_lss G G) (fun h2=>?_) (fun h2=>?_)
 ·have hx:i<k.length:=by omega
  obtain ⟨b2,o2,rfl,e,⟨a3,c3,rfl,hdat⟩,hat⟩:=hv.at hx
  repeat (first|refine zF ?_|refine zR ?_|refine zB ?_|refine zE ?_|refine zP ?_|refine zJ G ?_|refine L_idx G G (by omega) G G ?_|refine L_atA G (by assumption) G G G G ?_|refine L_stA G (vs:=[_,_,_]) G G G G (c':=[_,_,_]) G G ?_|refine L_alloc (c:=[_,_,_]) G G G (fun _=>?_))
  refine yC [7,9,10] [0,1,2,3,4,5,6,7,8,9,10,11] (by kernel_rfl) G (by kernel_rfl) (by kernel_rfl) ?_
  repeat (first|refine yI G G G G G ?_|refine yE G G G G (yA G G G) ?_|refine W_load G G G G (yF G) (zG G (zS G)) ?_)
  refine W_call G G G G (zQ G G G) (cloneB_spec w0 X _ _ hdat (by have:=hok.1 _ (List.getElem_mem hx); omega)) (Kept.all _) ?_
  rintro vc _ ⟨hc,hcl,rfl⟩
  obtain ⟨a4,c4,rfl⟩:=hcl.shape
  refine ⟨(by repeat (first|exact trivial|exact zG G (zS G)|exact zL G G G|exact zX G (by assumption) G|exact zH G (by assumption) G|exact zH G (by assumption) (by assumption)|refine ⟨?_,?_⟩)),?_⟩
  repeat (refine yE G G G G (pv_build (vs:=[_,_,_]) (cells:=[_,_,_]) G G) ?_)
  refine W_eff G G G G (ev_buildSlice (vs:=[_]) (cells:=[_,_,_]) G G G G) (Kept.all _) ?_
  rintro _ _ ⟨b5,rfl,rfl⟩
  refine ⟨(by repeat (first|exact trivial|exact zG G (zS G)|exact zL G G G|exact zX G (by assumption) G|exact zH G (by assumption) G|exact zH G (by assumption) (by assumption)|refine ⟨?_,?_⟩)),?_⟩
  have hnew:Rep.rd w0 (E+hc) k[i] [.int .i64 k[i].snap,.int .i64 k[i].no,.slice a4 k[i].data.length c4]:=⟨a4,c4,rfl,hcl.plainB.rd (X:=0) (R:=E)⟩
  refine W_eff G G G G (ev_appendL (X:=E+hc) (ns:=[k[i]]) (h:=h) G G (ho.mono G) (rd_one G) (All2.one hnew) G G G G G (by simp only [List.length_take,List.length_singleton]; omega)) (Kept.all _) ?_
  rintro vo' _ ⟨h',ho',rfl⟩
  refine ⟨(by repeat (first|exact trivial|exact zG G (zS G)|exact zL G G G|exact zX G (by assumption) G|exact zH G (by assumption) G|exact zH G (by assumption) (by assumption)|refine ⟨?_,?_⟩)),?_⟩
  repeat (first|refine yJ ?_|refine yI G G G G G ?_)
  repeat (first|refine zB ?_|refine zE ?_|refine zK G G G ?_|refine L_add G G (by omega) (by omega) G G ?_)
  rw [← List.take_succ_eq_append_getElem hx] at ho'
  exact ⟨hx,_,(by repeat (first|exact zT _|refine zO G ?_)),vo',E+hc,h',_,rfl,ho',yK.out⟩
 ·rw [List.take_of_length_le (by omega)] at ho
  repeat (first|refine zF ?_|refine yD ?_|refine zB ?_|refine zE ?_|refine zZ G G G G G ?_|refine L_ld G G G G G ?_|refine zI G ?_)
  refine yH G G (pv_max G G) ?_
  rw [show (if (0:Int)<(no:Int) then (no:Int) else 0)=(no:Int) by split<;>omega]
  repeat (first|refine zR ?_|refine zE ?_|refine zK G G G ?_)
  refine hold_loop_of (holdR ?_)
  repeat (first|refine zF ?_|refine zB ?_|refine zK G G G ?_|refine zZ G G G G G ?_|refine L_ld G G G G G ?_)
  refine yH G G (pv_min G G) ?_
  rw [show (if (64:Int)<(no:Int)+1 then (64:Int) else (no:Int)+1)=(no:Int)+1 by split<;>omega]
  refine L_yes G G (pv_lss G G) (by omega) ?_
  repeat (first|refine zF ?_|refine zR ?_|refine zB ?_|refine zE ?_|refine zK G G G ?_|refine zP ?_|refine zJ G ?_)
  refine zY G G (zQ G G G) (place_spec w0 (E+h) vo k snap no ho.rd0 hl) ?_
  rintro _ _ ⟨i,rfl,hpi,rfl⟩
  repeat (first|refine zF ?_|refine zB ?_|refine zE ?_|refine zK G G G ?_)
  have fin:∀ (g:Env) (L:Hp) (vr:Value) (E2 hr R2:Hp),OwL w0 E2 (keepK k snap no (getB l no)) vr hr→Sub g [(6,.pointer (some ⟨b6,0,none⟩)),(9,vr),(12,.int .i64 ((no:Int)+1))] →
    L=X+E2+hr+pt b6 (.cells [.int .i64 (no:Int),.int .i64 ((no:Int)+1)].toArray 70 (0,0))+fr+R2 →
    ∃ g',Sub g g'∧g'=[(6,.pointer (some ⟨b6,0,none⟩)),(9,vr),(12,.int .i64 ((no:Int)+1))]:=fun g L vr E2 hr R2 _ hs _=>⟨_,hs,rfl⟩
  refine hold_join (fun g' L'=>∃ (vr:Value) (E2 hr R':Hp),Sub g' [(1,.int .i64 snap),(3,.slice au l.length cu),(6,.pointer (some ⟨b6,0,none⟩)),(9,vr),(12,.int .i64 (no:Int))]∧OwL w0 E2 (keepK k snap no (getB l no)) vr hr ∧
    L'=X+E2+hr+pt b6 (.cells [.int .i64 (no:Int),.int .i64 ((no:Int)+1)].toArray 70 (0,0))+fr+R') ?_ ?_
  ·cases ht:thereK k snap no i
   ·obtain ⟨hlo,hhi,_⟩:=pl_missed hok.2 hpi ht
    repeat (first|refine zB ?_|refine zK G G G ?_|refine zI G ?_)
    refine zY G G (zQ G G G) hget ?_
    rintro vg _ ⟨hg,hgo,rfl⟩
    obtain ⟨a4,c4,rfl⟩:=hgo.shape
    repeat (first|refine L_build (vs:=[_,_,_]) (cells:=[_,_,_]) G G G G ?_|refine L_bs (vs:=[_]) (cells:=[_,_,_]) G G G G G G (fun _=>?_))
    rename_i bn
    have hnew:Rep.rd w0 (E+hg) (⟨snap,no,getB l no⟩:Kpt) [.int .i64 snap,.int .i64 (no:Int),.slice a4 (getB l no).length c4]:=⟨a4,c4,rfl,hgo.rd (R:=E)⟩
    obtain ⟨es,h5,h6⟩:=id ho
    have hes:=h6.length
    refine zY G G (zQ G G G) (insertAtKpt_spec w0 es vo h bn i _ h5 (by have:=hpi.1; omega) h6.ones (Rep.len hnew) (Rep.one hnew) (by omega)) ?_
    rintro vn hn hrown
    repeat (first|refine zE ?_|refine zK G G G ?_)
    refine ⟨vn,E+hg,hn,_,(by repeat (first|exact zT _|refine zO G ?_)),⟨_,hrown,?_⟩,yK.out⟩
    have hall':=h6.mono (S:=Rep.rd w0 (E+hg)) (fun x e he=>Rep.mono G he)
    unfold keepK
    rw [← hlo,← hhi]
    exact (hall'.take i).append (ys:=_::_) ⟨hnew,hall'.drop i⟩
   ·obtain ⟨hi2,e1,e2,hlo,hhi,_⟩:=pl_there hok.2 hpi ht
    obtain ⟨es,h5,h6⟩:=id ho
    have hes:=h6.length
    obtain ⟨bo,co,spare,rfl,rfl,h7,h8,h9,h10⟩:=h5.nonempty (by intro e; subst e; simp at hes; omega)
    obtain ⟨e,hei,hre⟩:=h6.get hi2
    obtain ⟨a5,c5,rfl,hdat⟩:=id hre
    rw [hes]
    repeat (first|refine zB ?_|refine zK G G G ?_|refine zJ G ?_)
    refine zY G G (zQ G G G) hget ?_
    rintro vg _ ⟨hg,hgo,rfl⟩
    obtain ⟨a4,c4,rfl⟩:=hgo.shape
    repeat (first|refine zZ G G G G G ?_|refine L_idx G G (by omega) G G ?_)
    refine L_st G G (row_get0 (j:=2) h7 spare hei G) (row_set0 (j:=2) h7 spare _ hei (show 2<3 by omega)) G G G ?_
    repeat (refine zE ?_)
    have hnew:Rep.rd w0 (E+hg) (⟨snap,no,getB l no⟩:Kpt) ([.int .i64 k[i].snap,.int .i64 k[i].no,.slice a5 k[i].data.length c5].set 2 (.slice a4 (getB l no).length c4)):=⟨a4,c4,by rw [e1,e2]; rfl,hgo.rd (R:=E)⟩
    have hall':=(h6.mono (S:=Rep.rd w0 (E+hg)) (fun x e he=>Rep.mono G he)).set i hnew
    have hek:k.set i ⟨snap,no,getB l no⟩=keepK k snap no (getB l no):=by
     unfold keepK
     rw [← hlo,← hhi,List.set_eq_take_append_cons_drop,if_pos hi2]
    rw [hek] at hall'
    have hrow:=isRow_block (E:=73) (b:=bo) (cap:=co) (spare:=spare) hall'.lens (by rw [List.length_set]; exact h8) h9 (by rw [List.length_set]; exact h10)
    rw [List.length_set,hes] at hrow
    exact ⟨_,E+hg,_,_,(by repeat (first|exact zT _|refine zO G ?_)),⟨_,hrow,hall'⟩,yK.out⟩
  ·rintro g' _ ⟨vr,E2,hr,R',hsub,hrow,rfl⟩
   refine hold_env hsub ?_
   clear hsub g' fin
   repeat (first|refine zB ?_|refine zE ?_|refine zK G G G ?_|refine L_add G G (by omega) (by omega) G G ?_)
   refine holdR_env (g':=[(6,.pointer (some ⟨b6,0,none⟩)),(9,vr),(12,.int .i64 ((no:Int)+1))]) (by repeat (first|exact zT _|refine zO G ?_)) (holdR ?_)
   repeat (first|refine zF ?_|refine zB ?_|refine zK G G G ?_|refine zZ G G G G G ?_|refine L_ld G G G G G ?_)
   refine yH G G (pv_min G G) ?_
   rw [show (if (64:Int)<(no:Int)+1 then (64:Int) else (no:Int)+1)=(no:Int)+1 by split<;>omega]
   refine L_no G G (pv_lss G G) (by omega) ?_
   repeat (first|refine zF ?_|refine yD ?_|refine zB ?_|refine zE ?_|refine zK G G G ?_|refine zM ?_|refine zI G ?_)
   exact ⟨[_],X+(E2+hr),_,⟨rfl,trivial⟩,⟨E2,hr,hrow,rfl⟩,yK.out⟩
end Sl
end Go.Proofs.YtpkealohodeifaaGreat
namespace Go.Proofs.YtpkealohodeifaaGreat
open Go Go.RowKit
namespace Sl
set_option maxHeartbeats 4000000
set_option maxRecDepth 4000
attribute [local irreducible] Hold HoldL HoldW
theorem find_hit {α:Type} {p:α→Bool}:∀ {xs:List α} {k:Nat} (hk:k<xs.length),p xs[k]=true→(∀ x∈xs.take k,p x=false)→xs.find? p=some xs[k]
 | x::xs,0,_,h,_=>by simp only [List.getElem_cons_zero] at h ⊢; exact List.find?_cons_of_pos h
 | x::xs,k+1,hk,h,hp=>by
  have h0:p x=false:=hp x (by simp)
  have:=find_hit (xs:=xs) (k:=k) (by simpa using hk) (by simpa using h) (fun y hy=>hp y (by simp [hy]))
  rw [List.find?_cons_of_neg (by simp [h0]),this]; rfl
def isCl (client:Int) (s:Ses):Bool:=decide (s.client=client)
abbrev int1 (b:Nat) (n:Int):Hp:=pt b (.cells [.int .i64 n].toArray 3 (0,0))
theorem find18a_spec (w0:World) (e:List Value) (s:Ses) (Y:Hp) (he:Rep.rd w0 Y s e) (b:Nat) (client:Int) :
  Spec Tryz.prog w0 166 [.agg e.toArray,.pointer (some ⟨b,0,none⟩)] (int1 b client) (fun r h'=>r=.bool (isCl client s)∧int1 b client=h'):=by
 obtain ⟨a,c,rfl,_⟩:=he
 refine zN Tryz.func166 G Tryz.ntmps166 Tryz.results166 G fun fr=>?_
 repeat (first|refine zF ?_|refine zB ?_|refine zE ?_|refine zK G G G ?_|refine zZ G G G G G ?_|refine L_ld G G G G G ?_|refine L_box G (c:=[_,_,_,_]) G G G (fun _=>?_))
 refine yH G G (pv_eql G G) ?_
 repeat (first|refine zE ?_|refine zK G G G ?_|refine zM ?_)
 exact ⟨[_],_,_,⟨rfl,trivial⟩,⟨rfl,rfl⟩,yK.out⟩
theorem note18a_spec (w0:World) (e:List Value) (s:Ses) (Y:Hp) (he:Rep.rd w0 Y s e) (b:Nat) (client:Int) :
  Spec Tryz.prog w0 222 [.agg e.toArray,.pointer (some ⟨b,0,none⟩)] (int1 b client) (fun r h'=>r=.bool (decide (client<s.client))∧int1 b client=h'):=by
 obtain ⟨a,c,rfl,_⟩:=he
 refine zN Tryz.func222 G Tryz.ntmps222 Tryz.results222 G fun fr=>?_
 repeat (first|refine zF ?_|refine zB ?_|refine zE ?_|refine zK G G G ?_|refine zZ G G G G G ?_|refine L_ld G G G G G ?_|refine L_box G (c:=[_,_,_,_]) G G G (fun _=>?_))
 refine yH G G (pv_gtr G G) ?_
 repeat (first|refine zE ?_|refine zK G G G ?_|refine zM ?_)
 exact ⟨[_],_,_,⟨rfl,trivial⟩,⟨rfl,rfl⟩,yK.out⟩
theorem find18_spec (w0:World) (X:Hp) (v:Value) (l:List Ses) (client:Int) (hv:RdL w0 X v l) (hl:l.length≤1000000000) :
  Spec Tryz.prog w0 107 [v,.int .i64 client] X (fun r h'=>r=.int .i64 (idxF (isCl client) l)∧X=h'):=by
 obtain ⟨a,c,rfl⟩:=hv.shape
 refine zN Tryz.func107 G Tryz.ntmps107 Tryz.results107 G fun fr=>?_
 repeat (first|refine zF ?_|refine zB ?_|refine zE ?_|refine zK G G G ?_|refine L_box G (c:=[_]) G G G (fun _=>?_)|refine L_clo G G G ?_)
 rename_i b3
 refine zY G G (zQ G G G) (indexFuncSes_spec w0 (X+int1 b3 client) _ l 166 [.pointer (some ⟨b3,0,none⟩)] (isCl client) (hv.frame) hl (fun Y x e hx he=>Spec.frameL (hadd_comm _ _) (find18a_spec w0 e x Y he b3 client))) ?_
 rintro _ _ ⟨rfl,rfl⟩
 repeat (first|refine zE ?_|refine zK G G G ?_|refine zM ?_)
 exact ⟨[_],X,_,⟨rfl,trivial⟩,⟨rfl,rfl⟩,yK.out⟩
theorem clone18_spec (w0:World) (X:Hp) (e:List Value) (s:Ses) (he:Rep.rd w0 X s e) (hd:s.res.data.length≤1000000000) :
  Spec Tryz.prog w0 108 [.agg e.toArray] X (fun r h'=>∃ a c h,r=.agg [.int .i64 s.client,.int .i64 s.seq,.int .i64 s.res.code,.slice a s.res.data.length c].toArray∧OwL w0 0 s.res.data (.slice a s.res.data.length c) h∧X+h=h'):=by
 obtain ⟨a,c,rfl,hdat⟩:=he
 refine zN Tryz.func108 G Tryz.ntmps108 Tryz.results108 G fun fr=>?_
 repeat (first|refine zF ?_|refine zB ?_|refine zE ?_|refine zZ G G G G G ?_|refine L_ld G G G G G ?_|refine L_box G (c:=[_,_,_,_]) G G G (fun _=>?_)|refine L_alloc (c:=[_,_,_,_]) G G G (fun _=>?_))
 refine zY G G (zQ G G G) (cloneBB_spec w0 X _ _ hdat (by omega)) ?_
 rintro vc _ ⟨h,ho,rfl⟩
 obtain ⟨a2,c2,rfl⟩:=ho.shape
 repeat (first|refine zF ?_|refine zB ?_|refine zE ?_|refine zZ G G G G G ?_|refine zM ?_|refine L_st G G G (c':=[_,_,_,_]) G G G G ?_|refine L_ldA G (vs:=[_,_,_,_]) G G G G G ?_|refine L_stA G (vs:=[_,_,_,_]) G G G G (c':=[_,_,_,_]) G G ?_)
 exact ⟨[_],X+h,_,⟨⟨_,rfl,zL G G G⟩,trivial⟩,⟨a2,c2,h,rfl,ho.plainB,rfl⟩,yK.out⟩
def askF (l:List Ses) (client seq:Int):Res × Int :=
 if client=0 then (⟨0,[]⟩,0) else match l.find? (isCl client) with
  | none=>(⟨0,[]⟩,0)
  | some s=>if s.seq<seq then (⟨0,[]⟩,0) else if seq<s.seq then (⟨0,[]⟩,15) else (s.res,7)
theorem ask18_spec (w0:World) (X:Hp) (v:Value) (l:List Ses) (client seq:Int) (hv:RdL w0 X v l) (hl:l.length≤1000000000) (hd:∀ s∈l,s.res.data.length≤1000000000) :
  Spec Tryz.prog w0 27 [v,.int .i64 client,.int .i64 seq] X
   (fun r h'=>∃ a c h,r=.tuple #[.agg [.int .i64 (askF l client seq).1.code,.slice a (askF l client seq).1.data.length c].toArray,.int .i64 (askF l client seq).2]∧OwL w0 0 (askF l client seq).1.data (.slice a (askF l client seq).1.data.length c) h∧X+h=h'):=by
 have hfind:=find18_spec w0 X v l client hv hl
 obtain ⟨a,c,rfl⟩:=hv.shape
 refine zN Tryz.func27 G Tryz.ntmps27 Tryz.results27 G fun fr=>?_
 repeat (first|refine zF ?_|refine zB ?_|refine zE ?_|refine zK G G G ?_|refine L_alloc (c:=[_,_]) G G G (fun _=>?_))
 refine zY G G (zQ G G G) hfind ?_
 rintro _ _ ⟨rfl,rfl⟩
 repeat (first|refine zF ?_|refine zR ?_|refine zB ?_|refine zE ?_|refine zK G G G ?_)
 refine yG G G (pv_eql G G) (fun h1=>?_) (fun h1=>?_)
 ·repeat (first|refine zF ?_|refine zB ?_|refine zE ?_|refine zK G G G ?_|refine L_skip G G ?_|refine zM ?_|refine zJ G ?_|refine L_build (vs:=[]) (cells:=[_,_]) G G G G ?_|refine L_stA G (vs:=[_,_]) G G G G (c':=[_,_]) G G ?_)
  exact ⟨[_,_],X,_,⟨⟨_,rfl,zL G G G⟩,rfl,trivial⟩,⟨none,0,0,by rw [askF,if_pos h1]; rfl,by rw [askF,if_pos h1]; exact OwL.nil _ _,yB _⟩,yK.out⟩
 ·rcases idxF_cases (isCl client) l with ⟨hi,hall⟩|⟨i,hx,hi,hpi,hall⟩
  ·have hask:askF l client seq=(⟨0,[]⟩,0):=by rw [askF,if_neg h1,List.find?_eq_none.2 (fun x hx=>by rw [hall x hx]; simp)]
   rw [hi]
   repeat (refine zK G G G ?_)
   refine L_yes G G (pv_lss G G) (by omega) ?_
   repeat (first|refine zF ?_|refine zB ?_|refine zE ?_|refine zK G G G ?_|refine L_skip G G ?_|refine zM ?_|refine zJ G ?_|refine L_build (vs:=[]) (cells:=[_,_]) G G G G ?_|refine L_stA G (vs:=[_,_]) G G G G (c':=[_,_]) G G ?_)
   exact ⟨[_,_],X,_,⟨⟨_,rfl,zL G G G⟩,rfl,trivial⟩,⟨none,0,0,by rw [hask]; rfl,by rw [hask]; exact OwL.nil _ _,yB _⟩,yK.out⟩
  ·have hask:askF l client seq=if l[i].seq<seq then (⟨0,[]⟩,0) else if seq<l[i].seq then (⟨0,[]⟩,15) else (l[i].res,7):=by rw [askF,if_neg h1,find_hit hx hpi hall]
   rw [hi]
   obtain ⟨b2,o2,rfl,e,he,hat⟩:=hv.at hx
   obtain ⟨a3,c3,rfl,hdat⟩:=id he
   repeat (refine zK G G G ?_)
   refine L_no G G (pv_lss G G) (by omega) ?_
   repeat (first|refine zK G G G ?_|refine zZ G G G G G ?_|refine L_idx G G (by omega) G G ?_|refine L_atf G (by assumption) G G G G ?_)
   refine yG G G (pv_gtr G G) (fun h2=>?_) (fun h2=>?_)
   ·rw [if_pos h2] at hask
    repeat (first|refine zF ?_|refine zB ?_|refine zE ?_|refine zK G G G ?_|refine zM ?_|refine zJ G ?_|refine L_build (vs:=[]) (cells:=[_,_]) G G G G ?_|refine L_stA G (vs:=[_,_]) G G G G (c':=[_,_]) G G ?_)
    exact ⟨[_,_],X,_,⟨⟨_,rfl,zL G G G⟩,rfl,trivial⟩,⟨none,0,0,by rw [hask]; rfl,by rw [hask]; exact OwL.nil _ _,yB _⟩,yK.out⟩
   ·rw [if_neg h2] at hask
    repeat (first|refine zF ?_|refine zB ?_|refine zE ?_|refine zK G G G ?_|refine zZ G G G G G ?_|refine zI G ?_|refine L_idx G G (by omega) G G ?_|refine L_atf G (by assumption) G G G G ?_)
    refine yG G G (pv_lss G G) (fun h3=>?_) (fun h3=>?_)
    ·rw [if_pos h3] at hask
     repeat (first|refine zF ?_|refine zB ?_|refine zE ?_|refine zK G G G ?_|refine zM ?_|refine zJ G ?_|refine L_build (vs:=[]) (cells:=[_,_]) G G G G ?_|refine L_stA G (vs:=[_,_]) G G G G (c':=[_,_]) G G ?_)
     exact ⟨[_,_],X,_,⟨⟨_,rfl,zL G G G⟩,rfl,trivial⟩,⟨none,0,0,by rw [hask]; rfl,by rw [hask]; exact OwL.nil _ _,yB _⟩,yK.out⟩
    ·rw [if_neg h3] at hask
     repeat (first|refine zF ?_|refine zB ?_|refine zE ?_|refine zK G G G ?_|refine zP ?_|refine zI G ?_|refine L_idx G G (by omega) G G ?_|refine L_atA G (by assumption) G G G G ?_)
     refine zY G G (zQ G G G) (clone18_spec w0 X _ l[i] he (by have:=hd _ (List.getElem_mem hx); omega)) ?_
     rintro _ _ ⟨a4,c4,h,rfl,ho,rfl⟩
     refine yH G G (pv_fieldA (vs:=[_,_]) G G G G G) ?_
     repeat (first|refine zE ?_|refine zK G G G ?_|refine zM ?_|refine L_stA G (vs:=[_,_]) G G G G (c':=[_,_]) G G ?_)
     exact ⟨[_,_],X+h,_,⟨⟨_,rfl,zL G G G⟩,rfl,trivial⟩,⟨a4,c4,h,by rw [hask]; rfl,by rw [hask]; exact ho,rfl⟩,yK.out⟩
def noteF (l:List Ses) (client seq:Int) (r:Res):List Ses :=
 if client=0 then l
 else if 0≤idxF (isCl client) l then l.set (idxF (isCl client) l).toNat ⟨client,seq,r⟩
 else if idxF (fun s=>decide (client<s.client)) l<0 then l++[⟨client,seq,r⟩]
 else l.take (idxF (fun s=>decide (client<s.client)) l).toNat++⟨client,seq,r⟩::l.drop (idxF (fun s=>decide (client<s.client)) l).toNat
theorem note18_spec (w0:World) (X:Hp) (v:Value) (l:List Ses) (client seq:Int) (r:Res) (er:List Value) (hv:RdL w0 X v l) (hl:l.length≤1000000000) (hd:∀ s∈l,s.res.data.length≤1000000000) (hr:Rep.rd w0 X r er) (hrd:r.data.length≤1000000000) :
  Spec Tryz.prog w0 162 [v,.int .i64 client,.int .i64 seq,.agg er.toArray] X (fun r' h'=>∃ E h,OwL w0 E (noteF l client seq r) r' h∧X+(E+h)=h'):=by
 have hfind:=find18_spec w0 X v l client hv hl
 obtain ⟨a,c,rfl⟩:=hv.shape
 obtain ⟨ar,cr,rfl,hrdat⟩:=id hr
 refine zN Tryz.func162 G Tryz.ntmps162 Tryz.results162 G fun fr=>?_
 repeat (first|refine zF ?_|refine zB ?_|refine zE ?_|refine zK G G G ?_|refine L_len G G G ?_|refine L_add G G (by omega) (by omega) G G ?_|refine L_box G (c:=[_]) G G G (fun _=>?_)|refine L_box G (c:=[_,_]) G G G (fun _=>?_))
 rename_i b5 b7
 refine L_eff G G (ev_makeSliceC (m:=0) (n:=l.length+1) G G (by omega) G (by omega) (by omega)) ?_
 rintro _ _ ⟨b9,rfl,rfl⟩
 repeat (first|refine zF ?_|refine zR ?_|refine zB ?_|refine zE ?_|refine zK G G G ?_|refine L_len G G G ?_)
 refine hold_count l.length (fun k g L=>∃ (vo:Value) (E h R:Hp),g=[(0,.slice a l.length c),(2,.int .i64 seq),(5,.pointer (some ⟨b5,0,none⟩)),(7,.pointer (some ⟨b7,0,none⟩)),(9,vo),(19,.slice a l.length c),(20,.int .i64 l.length),(21,.int .i64 k)]∧OwL w0 E (l.take k) vo h ∧
   L=X+E+h+int1 b5 client+pt b7 (.cells [.int .i64 r.code,.slice ar r.data.length cr].toArray 51 (0,0))+fr+R) _
  ⟨.slice (some ⟨b9,0,none⟩) 0 (l.length+1),0,_,0,rfl,⟨[],isRow_room (n:=l.length+1) (flat_reps _ _) (by unfold maxLen; omega),trivial⟩,by simp only [yB]; ac_rfl⟩ (by repeat (first|exact zT _|refine zO G ?_)) ?_
 rintro k g L hk ⟨vo,E,h,R,rfl,ho,rfl⟩
 repeat (first|refine zF ?_|refine zB ?_)
 refine yG G G (pv_lss G G) (fun h2=>?_) (fun h2=>?_)
 ·have hx:k<l.length:=by omega
  obtain ⟨b2,o2,rfl,e,he,hat⟩:=hv.at hx
  obtain ⟨a3,c3,rfl,hdat⟩:=id he
  repeat (first|refine zF ?_|refine zR ?_|refine zB ?_|refine zE ?_|refine zK G G G ?_|refine zP ?_|refine zJ G ?_|refine L_idx G G (by omega) G G ?_|refine L_atA G (by assumption) G G G G ?_|refine L_ldA G (vs:=[_,_,_,_]) G G G G G ?_|refine L_stA G (vs:=[_,_,_,_]) G G G G (c':=[_,_,_,_]) G G ?_|refine L_alloc (c:=[_,_,_,_]) G G G (fun _=>?_))
  refine zY G G (zQ G G G) (clone18_spec w0 X _ l[k] he (by have:=hd _ (List.getElem_mem hx); omega)) ?_
  rintro _ _ ⟨a4,c4,hc,rfl,hcl,rfl⟩
  repeat (refine L_bs (vs:=[_]) (cells:=[_,_,_,_]) G G G G G G (fun _=>?_))
  have hnew:Rep.rd w0 (E+hc) l[k] [.int .i64 l[k].client,.int .i64 l[k].seq,.int .i64 l[k].res.code,.slice a4 l[k].res.data.length c4]:=⟨a4,c4,rfl,hcl.rd (R:=E)⟩
  refine L_eff G G (ev_appendL (X:=E+hc) (ns:=[l[k]]) (h:=h) G G (ho.mono G) (rd_one G) (All2.one hnew) G G G G G (by simp only [List.length_take,List.length_singleton]; omega)) ?_
  rintro vo' _ ⟨h',ho',rfl⟩
  repeat (first|refine zB ?_|refine zE ?_|refine zK G G G ?_|refine L_add G G (by omega) (by omega) G G ?_)
  rw [← List.take_succ_eq_append_getElem hx] at ho'
  exact ⟨hx,_,(by repeat (first|exact zT _|refine zO G ?_)),vo',E+hc,h',_,rfl,ho',yK.out⟩
 ·rw [List.take_of_length_le (by omega)] at ho
  repeat (first|refine zF ?_|refine yD ?_|refine zB ?_|refine zE ?_|refine L_ld G G G G G ?_|refine zI G ?_)
  refine yG G G (pv_eql G G) (fun h1=>?_) (fun h1=>?_)
  ·repeat (first|refine zF ?_|refine zB ?_|refine zE ?_|refine zK G G G ?_|refine zM ?_|refine zJ G ?_)
   exact ⟨[_],X+(E+h),_,⟨rfl,trivial⟩,⟨E,h,by rw [noteF,if_pos h1]; exact ho,rfl⟩,yK.out⟩
  ·repeat (first|refine zF ?_|refine zB ?_|refine zE ?_|refine zK G G G ?_|refine L_ld G G G G G ?_|refine zP ?_|refine zI G ?_|refine L_ldA G (vs:=[_,_]) G G G G G ?_|refine L_build (vs:=[_,_,_]) (cells:=[_,_,_,_]) G G G G ?_)
   refine zY G G (zQ G G G) (clone18_spec w0 X _ ⟨client,seq,r⟩ ⟨ar,cr,rfl,hrdat⟩ hrd) ?_
   rintro _ _ ⟨a4,c4,hc,rfl,hcl,rfl⟩
   have hnew:Rep.rd w0 (E+hc) (⟨client,seq,r⟩:Ses) [.int .i64 client,.int .i64 seq,.int .i64 r.code,.slice a4 r.data.length c4]:=⟨a4,c4,rfl,hcl.rd (R:=E)⟩
   obtain ⟨es,h5,h6⟩:=ho.mono (L:=E+hc) rfl
   have hes:=h6.length
   repeat (first|refine zF ?_|refine zB ?_|refine zE ?_|refine zK G G G ?_|refine L_ld G G G G G ?_|refine L_stA G (vs:=[_,_,_,_]) G G G G (c':=[_,_,_,_]) G G ?_|refine L_alloc (c:=[_,_,_,_]) G G G (fun _=>?_))
   refine zY G G (zQ G G G) hfind ?_
   rintro _ _ ⟨rfl,rfl⟩
   repeat (first|refine zF ?_|refine zB ?_|refine zE ?_|refine zK G G G ?_)
   rcases idxF_cases (isCl client) l with ⟨hi,hall⟩|⟨i,hx,hi,hpi,hall⟩
   ·rw [hi]
    refine L_no G G (pv_geq G G) (by omega) ?_
    repeat (first|refine zF ?_|refine zB ?_|refine zE ?_|refine zK G G G ?_|refine zP ?_|refine zI G ?_|refine L_clo G G G ?_)
    refine zY G G (zQ G G G) (indexFuncSes_spec w0 (X+int1 b5 client) _ l 222 [.pointer (some ⟨b5,0,none⟩)] (fun s=>decide (client<s.client)) (hv.frame) hl (fun Y x e hx he=>Spec.frameL (hadd_comm _ _) (note18a_spec w0 e x Y he b5 client))) ?_
    rintro _ _ ⟨rfl,rfl⟩
    repeat (first|refine zF ?_|refine zB ?_|refine zE ?_|refine zK G G G ?_)
    rcases idxF_cases (fun s:Ses=>decide (client<s.client)) l with ⟨hj,hallj⟩|⟨j,hxj,hj,hpj,hallj⟩
    ·rw [hj]
     refine L_yes G G (pv_lss G G) (by omega) ?_
     repeat (first|refine zF ?_|refine zB ?_|refine zE ?_|refine zK G G G ?_|refine zJ G ?_|refine L_ldA G (vs:=[_,_,_,_]) G G G G G ?_|refine L_bs (vs:=[_]) (cells:=[_,_,_,_]) G G G G G G (fun _=>?_))
     refine L_eff G G (ev_appendL (X:=E+hc) (ns:=[(⟨client,seq,r⟩:Ses)]) (h:=h) G G (ho.mono G) (rd_one G) (All2.one hnew) G G G G G (by simp only [List.length_singleton]; omega)) ?_
     rintro vo' _ ⟨h',ho',rfl⟩
     repeat (first|refine zE ?_|refine zK G G G ?_|refine zM ?_)
     exact ⟨[_],X+((E+hc)+h'),_,⟨rfl,trivial⟩,⟨E+hc,h',by rw [noteF,if_neg h1,hi,if_neg (by omega),hj,if_pos (by omega)]; exact ho',rfl⟩,yK.out⟩
    ·rw [hj]
     refine L_no G G (pv_lss G G) (by omega) ?_
     repeat (first|refine zF ?_|refine zB ?_|refine zE ?_|refine zK G G G ?_|refine zP ?_|refine zI G ?_|refine L_ldA G (vs:=[_,_,_,_]) G G G G G ?_|refine L_bs (vs:=[_]) (cells:=[_,_,_,_]) G G G G G G (fun _=>?_))
     rename_i bn
     refine zY G G (zQ G G G) (insertAtSes_spec w0 es vo h bn j _ h5 (by omega) h6.ones (Rep.len hnew) (Rep.one hnew) (by omega)) ?_
     rintro vn hn hrown
     repeat (first|refine zE ?_|refine zK G G G ?_|refine zM ?_)
     exact ⟨[_],X+((E+hc)+hn),_,⟨rfl,trivial⟩,⟨E+hc,hn,by rw [noteF,if_neg h1,hi,if_neg (by omega),hj,if_neg (by omega)]; exact ⟨_,hrown,(h6.take j).append (ys:=_::_) ⟨hnew,h6.drop j⟩⟩,rfl⟩,yK.out⟩
   ·rw [hi]
    refine L_yes G G (pv_geq G G) (by omega) ?_
    obtain ⟨bo,co,spare,rfl,rfl,h7,h8,h9,h10⟩:=h5.nonempty (by intro e; subst e; simp at hes; omega)
    obtain ⟨e,hei,hre⟩:=h6.get hx
    obtain ⟨a5,c5,rfl,hdat⟩:=id hre
    rw [hes]
    repeat (first|refine zF ?_|refine zB ?_|refine zE ?_|refine zK G G G ?_|refine zJ G ?_|refine L_idx G G (by omega) G G ?_|refine L_ldA G (vs:=[_,_,_,_]) G G G G G ?_)
    have hel:es=es.take i++[.int .i64 l[i].client,.int .i64 l[i].seq,.int .i64 l[i].res.code,.slice a5 l[i].res.data.length c5]::es.drop (i+1):=by
     have hie:i<es.length:=by omega
     rw [List.getElem?_eq_getElem hie] at hei
     rw [← Option.some.inj hei,← List.drop_eq_getElem_cons hie,List.take_append_drop]
    have hfl:∀ x∈es.take i,x.length=4:=fun x hx=>h7 x (List.mem_of_mem_take hx)
    have hti:(es.take i).length=i:=by rw [List.length_take]; omega
    have hsp:=splice_row (rs:=es.drop (i+1)) (spare:=spare) (r0:=[.int .i64 l[i].client,.int .i64 l[i].seq,.int .i64 l[i].res.code,.slice a5 l[i].res.data.length c5]) (e:=[.int .i64 client,.int .i64 seq,.int .i64 r.code,.slice a4 r.data.length c4]) hfl G G
    rw [hti,← hel] at hsp
    have hset:es.take i++[[.int .i64 client,.int .i64 seq,.int .i64 r.code,.slice a4 r.data.length c4]]++es.drop (i+1)=es.set i [.int .i64 client,.int .i64 seq,.int .i64 r.code,.slice a4 r.data.length c4]:=by
     rw [List.set_eq_take_append_cons_drop,if_pos (by omega)]; simp
    rw [hset] at hsp
    refine L_eff G G (ev_storeA (vs:=[_,_,_,_]) G G G G (c:=es.flatten++spare) (by rw [List.length_append,length_flat h7]; show 0+i*4+4≤es.length*4+spare.length; omega) hsp) ?_
    rintro _ _ rfl
    repeat (first|refine zF ?_|refine zB ?_|refine zE ?_|refine zK G G G ?_|refine zM ?_)
    have hall':=h6.set i hnew
    have hrow:=isRow_block (E:=110) (b:=bo) (cap:=co) (spare:=spare) hall'.lens (by rw [List.length_set]; exact h8) h9 (by rw [List.length_set]; exact h10)
    rw [List.length_set,hes] at hrow
    exact ⟨[_],X+((E+hc)+_),_,⟨rfl,trivial⟩,⟨E+hc,_,by rw [noteF,if_neg h1,hi,if_pos (by omega)]; exact ⟨_,hrow,hall'⟩,rfl⟩,yK.out⟩
end Sl
end Go.Proofs.YtpkealohodeifaaGreat
