/-
  What shardServes.proved hangs on, part 7 of 8: ShCm, ShCp, ShSv, ShLs.
-/
import Derived.Test.YtpkealohodeifaaGreatSe6
set_option linter.unusedVariables false
set_option linter.unusedSimpArgs false
namespace Go.Proofs.YtpkealohodeifaaGreat
open Go Go.RowKit
namespace Sl
set_option maxHeartbeats 16000000
set_option maxRecDepth 4000
set_option synthInstance.maxHeartbeats 400000
set_option synthInstance.maxSize 100000
attribute [local irreducible] Hold HoldL HoldW
theorem refCheck_spec (w0:World) (X:Hp) (o:Opn) (e:List Value) (he:Rep.rd w0 X o e) (hl:o.parts.length≤1000000000∧o.reads.length≤1000000000∧o.writes.length≤1000000000) :
  Spec Tryz.prog w0 135 [.agg e.toArray] X (fun r h'=>r=.int .i64 (checkF o)∧X=h'):=by
 have hfld:=fields21_spec w0 o.kind
 have hrow:=row21_spec w0 X o e he
 have hplc:=fun f hf=>placed21R_spec w0 X o e f he hf
 have hwri:=written21_spec w0 X o e he hl.2.2
 have hbl:(o.writes.map Wr.block).length≤1000000000:=by rw [List.length_map]; exact hl.2.2
 have hfl:(fieldsR o.kind).length≤6:=by unfold fieldsR; (repeat' split)<;>simp
 have hf9:∀ x∈fieldsR o.kind,0≤x∧x≤9:=fieldsR_in _
 obtain ⟨x1,y1,x2,y2,x3,y3,x4,y4,rfl,r1,r2,r3,r4⟩:=id he
 have fin:∀ {g:Env} {L R fr:Hp} (x:Int),look g 2=some (.int .i64 x)→checkF o=x→L=X+fr+R→∃ vs h R',ResOk Tryz.prog w0 g L [.tmp 2] vs∧(oneV vs=.int .i64 (checkF o)∧X=h)∧L=h+fr+R' :=
  fun x h1 h2 h3=>⟨[_],X,_,⟨h1,trivial⟩,⟨by rw [h2]; rfl,rfl⟩,h3⟩
 by_cases k1:1≤o.kind∧o.kind≤11
 rotate_left
 ·rw [decide_eq_false k1] at hfld
  refine zN Tryz.func135 G Tryz.ntmps135 Tryz.results135 G fun fr=>?_
  repeat (first|refine zF ?_|refine zB ?_|refine zE ?_|refine zK G G G ?_|refine zZ G G G G G ?_|refine L_ld G G G G G ?_|refine L_box G (c:=[_,_,_,_,_,_,_,_,_,_,_,_,_,_,_,_,_]) G G G (fun _=>?_))
  refine zY G G (zQ G G G) hfld ?_
  rintro _ _ ⟨vf,hf,rfl,hof,rfl⟩
  repeat (first|refine zF ?_|refine zB ?_|refine zE ?_|refine zK G G G ?_|refine zM ?_|refine zJ G ?_)
  exact fin 13 rfl (ck13 k1) yK.out
 rw [decide_eq_true k1] at hfld
 refine zN Tryz.func135 G Tryz.ntmps135 Tryz.results135 G fun fr=>?_
 repeat (first|refine zF ?_|refine zB ?_|refine zE ?_|refine zK G G G ?_|refine zZ G G G G G ?_|refine L_ld G G G G G ?_|refine L_box G (c:=[_,_,_,_,_,_,_,_,_,_,_,_,_,_,_,_,_]) G G G (fun _=>?_))
 rename_i b1
 refine zY G G (zQ G G G) hfld ?_
 rintro _ _ ⟨vf,hf,rfl,hof,rfl⟩
 obtain ⟨af,cf,rfl⟩:=hof.shape
 repeat (first|refine zF ?_|refine zB ?_|refine zE ?_|refine zK G G G ?_|refine zP ?_|refine zI G ?_|refine L_ldA G (vs:=[_,_,_,_,_,_,_,_,_,_,_,_,_,_,_,_,_]) G G G G G ?_)
 refine zY G G (zQ G G G) hrow ?_
 rintro _ _ ⟨hr,hor,rfl⟩
 obtain ⟨ar,cr,rfl⟩:=hor.shape
 have hrf:RdL w0 (X+hf+hr) (.slice af (fieldsR o.kind).length cf) (fieldsR o.kind):=hof.rd0.mono (show _=0+hf+(X+hr) by rw [hzero_add]; ac_rfl)
 have hrr:RdL w0 (X+hf+hr) (.slice ar (rowR o).length cr) (rowR o):=hor.rd0.mono (show _=0+hr+(X+hf) by rw [hzero_add]; ac_rfl)
 have hrl:(rowR o).length=10:=rfl
 repeat (first|refine zF ?_|refine zR ?_|refine zB ?_|refine zE ?_|refine zK G G G ?_)
 refine hold_count 10 (fun k g L=>∃ R:Hp,g=[(1,.pointer (some ⟨b1,0,none⟩)),(3,.slice af (fieldsR o.kind).length cf),(5,.slice ar (rowR o).length cr),(6,.int .i64 k)]∧(∀ i,i<k→(rowR o).getD i 0=0∨((i:Nat):Int)∈fieldsR o.kind)∧L=X+hf+hr+pt b1 (.cells [.int .i64 o.kind,.int .i64 o.client,.int .i64 o.seq,.int .i64 o.txn,.int .i64 o.age,.int .i64 o.epoch,.int .i64 o.lo,.int .i64 o.hi,.int .i64 o.block,.int .i64 o.snap,.int .i64 o.value,.int .i64 o.src,.int .i64 o.dst,.slice x1 o.parts.length y1,.slice x2 o.reads.length y2,.slice x3 o.writes.length y3,.slice x4 o.data.length y4].toArray 49 (0,0))+fr+R) _ ⟨_,rfl,by omega,yK.out⟩ (by repeat (first|exact zT _|refine zO G ?_)) ?_
 rintro k g L hk ⟨R,rfl,hpre,rfl⟩
 repeat (first|refine zF ?_|refine zB ?_|refine zK G G G ?_|refine L_len G G G ?_)
 refine yG G G (pv_lss G G) (fun n1=>?_) (fun n1=>?_)
 ·have hx:k<(rowR o).length:=by omega
  obtain ⟨b2,o2,rfl,e,rfl,hat⟩:=hrr.at hx
  have hget:(rowR o).getD k 0=(rowR o)[k]:=by simp [List.getD,hx]
  have hnext:((rowR o)[k]=0∨((k:Nat):Int)∈fieldsR o.kind)→∀ i,i<k+1→(rowR o).getD i 0=0∨((i:Nat):Int)∈fieldsR o.kind:=fun h i hi=>by
   rcases Nat.lt_or_ge i k with h1|h1
   ·exact hpre i h1
   ·obtain rfl:i=k:=by omega
    rw [hget]; exact h
  repeat (first|refine zF ?_|refine zR ?_|refine zB ?_|refine zE ?_|refine zK G G G ?_|refine zP ?_|refine zJ G ?_|refine L_idx G G (by omega) G G ?_|refine L_at G (by assumption) G G G G ?_)
  refine yG G G (pv_neq G G) (fun n2=>?_) (fun n2=>?_)
  ·repeat (refine zK G G G ?_)
   refine L_callD G G (zQ G G G) (has21_spec w0 (X+hf+hr) (.slice af (fieldsR o.kind).length cf) (fieldsR o.kind) (k:Int) hrf (by omega)) (fun n3=>?_) (fun n3=>?_)
   ·repeat (first|refine zB ?_|refine zE ?_|refine zK G G G ?_|refine zP ?_|refine zI G ?_|refine L_add G G (by omega) (by omega) G G ?_)
    exact ⟨by omega,_,(by repeat (first|exact zT _|refine zO G ?_)),_,rfl,hnext (.inr n3),yK.out⟩
   ·repeat (first|refine zF ?_|refine zB ?_|refine zE ?_|refine zK G G G ?_|refine zM ?_|refine zJ G ?_)
    exact fin 14 rfl (ck14 k1 (fun h=>by have:=(bareN_iff o k1).1 h.1 k (by omega); rw [hget] at this; exact this.elim n2 n3)) yK.out
  ·repeat (first|refine zB ?_|refine zE ?_|refine zK G G G ?_|refine L_skip G G ?_|refine zP ?_|refine zI G ?_|refine L_add G G (by omega) (by omega) G G ?_)
   exact ⟨by omega,_,(by repeat (first|exact zT _|refine zO G ?_)),_,rfl,hnext (.inl (by omega)),yK.out⟩
 ·have hbn:BareN o:=(bareN_iff o k1).2 (fun i hi=>hpre i (by omega))
  clear hpre
  repeat (first|refine zF ?_|refine yD ?_|refine zB ?_|refine zE ?_|refine zZ G G G G G ?_|refine L_ld G G G G G ?_|refine zI G ?_)
  by_cases kB:(o.parts.length+o.reads.length+o.writes.length=0∨o.kind=2)∧(o.data.length=0∨o.kind=6)
  rotate_left
  ·repeat' (first|refine zF ?_|refine zB ?_|refine zE ?_|refine zK G G G ?_|refine zZ G G G G G ?_|refine L_ld G G G G G ?_|refine L_len G G G ?_|refine L_skip G G ?_|refine zM ?_|refine zJ G ?_|refine L_add G G (by omega) (by omega) G G ?_|refine L_yes G G (pv_gtr G G) (by omega) ?_|refine yG G G (pv_gtr G G) (fun _=>?_) (fun _=>?_)|refine L_yes G G (pv_neq G G) (by omega) ?_|refine yG G G (pv_neq G G) (fun _=>?_) (fun _=>?_)|exact fin 14 rfl (ck14 k1 (fun h=>kB h.2)) yK.out|done)
  have k2:BareP o:=⟨hbn,kB⟩
  rcases (show o.kind=2∨o.kind=6∨(o.kind≠2∧o.kind≠6) by omega) with kk|kk|kk
  ·refine L_no G G (pv_neq G G) (by omega) ?_
   repeat (first|refine zK G G G ?_|refine zZ G G G G G ?_|refine L_ld G G G G G ?_|refine L_skip G G ?_)
   refine L_yes G G (pv_neq G G) (by omega) ?_
   repeat (first|refine zK G G G ?_|refine zZ G G G G G ?_|refine L_ld G G G G G ?_|refine L_len G G G ?_)
   refine L_no G G (pv_gtr G G) (by omega) ?_
   repeat (first|refine zF ?_|refine zB ?_|refine zE ?_|refine zK G G G ?_|refine zZ G G G G G ?_|refine L_ld G G G G G ?_|refine L_len G G G ?_|refine zP ?_|refine zI G ?_)
   by_cases k3:4<o.parts.length∨16<o.reads.length∨8<o.writes.length
   ·repeat' (first|refine zF ?_|refine zB ?_|refine zE ?_|refine zK G G G ?_|refine zZ G G G G G ?_|refine L_ld G G G G G ?_|refine L_len G G G ?_|refine L_skip G G ?_|refine zM ?_|refine zJ G ?_|refine L_yes G G (pv_gtr G G) (by omega) ?_|refine yG G G (pv_gtr G G) (fun _=>?_) (fun _=>?_)|exact fin 17 rfl (ck17 k1 k2 k3) yK.out|done)
   refine L_no G G (pv_gtr G G) (by omega) ?_
   repeat (first|refine zK G G G ?_|refine zZ G G G G G ?_|refine L_ld G G G G G ?_|refine L_len G G G ?_)
   refine L_no G G (pv_gtr G G) (by omega) ?_
   repeat (first|refine zK G G G ?_|refine zZ G G G G G ?_|refine L_ld G G G G G ?_|refine L_len G G G ?_)
   refine L_no G G (pv_gtr G G) (by omega) ?_
   repeat (first|refine zF ?_|refine zB ?_|refine zE ?_|refine zK G G G ?_|refine zZ G G G G G ?_|refine L_ld G G G G G ?_|refine L_len G G G ?_|refine zP ?_|refine zI G ?_)
   refine yG G G (pv_gtr G G) (fun k4=>?_) (fun k4=>?_)
   ·repeat (first|refine zF ?_|refine zB ?_|refine zE ?_|refine zK G G G ?_|refine zM ?_|refine zJ G ?_)
    exact fin 2 rfl (ck2 k1 k2 k3 (by omega)) yK.out
   have k4':¬ 32768<o.data.length:=by omega
   have c3':=fun h=>ck3 k1 k2 k3 k4' h
   have hpl:=place_iff o k1 hbn
   repeat (first|refine zF ?_|refine zB ?_|refine zE ?_|refine zZ G G G G G ?_|refine L_ld G G G G G ?_|refine zP ?_|refine zI G ?_)
   refine L_callD G G (zQ G G G) (between21_spec w0 o.client 0 4) (fun k5=>?_) (fun k5=>?_)
   rotate_left
   ·repeat (first|refine zF ?_|refine zB ?_|refine zE ?_|refine zK G G G ?_|refine L_skip G G ?_|refine zM ?_|refine zJ G ?_)
    exact fin 3 rfl (c3' (fun h=>k5 (hpl.1 h.1).1.1)) yK.out
   repeat (first|refine zK G G G ?_|refine zZ G G G G G ?_|refine L_ld G G G G G ?_)
   refine L_callD G G (zQ G G G) (between21_spec w0 o.seq 0 1099511627776) (fun k6=>?_) (fun k6=>?_)
   rotate_left
   ·repeat (first|refine zF ?_|refine zB ?_|refine zE ?_|refine zK G G G ?_|refine L_skip G G ?_|refine zM ?_|refine zJ G ?_)
    exact fin 3 rfl (c3' (fun h=>k6 (hpl.1 h.1).1.2.1)) yK.out
   repeat (first|refine zK G G G ?_|refine zZ G G G G G ?_|refine L_ld G G G G G ?_)
   refine L_yes G G (pv_eql G G) kk ?_
   repeat (first|refine zK G G G ?_|refine zZ G G G G G ?_|refine L_ld G G G G G ?_|refine L_len G G G ?_)
   refine yG G G (pv_eql G G) (fun k7=>?_) (fun k7=>?_)
   ·repeat (first|refine zF ?_|refine zB ?_|refine zE ?_|refine zK G G G ?_|refine zM ?_|refine zJ G ?_)
    exact fin 3 rfl (c3' (fun h=>by have:=(hpl.1 h.1).1.2.2 kk; omega)) yK.out
   have k7':o.kind=2→0<o.parts.length:=fun _=>by omega
   repeat (first|refine zF ?_|refine zR ?_|refine zB ?_|refine zE ?_|refine zK G G G ?_|refine zP ?_|refine zI G ?_)
   refine hold_count (fieldsR o.kind).length (fun k g L=>∃ R:Hp,g=[(1,.pointer (some ⟨b1,0,none⟩)),(3,.slice af (fieldsR o.kind).length cf),(7,.int .i64 k)]∧(∀ f∈(fieldsR o.kind).take k,PlaceR o f)∧L=X+hf+hr+pt b1 (.cells [.int .i64 o.kind,.int .i64 o.client,.int .i64 o.seq,.int .i64 o.txn,.int .i64 o.age,.int .i64 o.epoch,.int .i64 o.lo,.int .i64 o.hi,.int .i64 o.block,.int .i64 o.snap,.int .i64 o.value,.int .i64 o.src,.int .i64 o.dst,.slice x1 o.parts.length y1,.slice x2 o.reads.length y2,.slice x3 o.writes.length y3,.slice x4 o.data.length y4].toArray 49 (0,0))+fr+R) _ ⟨_,rfl,by simp,yK.out⟩ (by repeat (first|exact zT _|refine zO G ?_)) ?_
   rintro k g L hk ⟨R,rfl,hpre,rfl⟩
   repeat (first|refine zF ?_|refine zB ?_|refine zK G G G ?_|refine L_len G G G ?_)
   refine yG G G (pv_lss G G) (fun n2=>?_) (fun n2=>?_)
   ·have hx:k<(fieldsR o.kind).length:=by omega
    obtain ⟨b2,o2,rfl,e,rfl,hat⟩:=hrf.at hx
    change At w0 _ b2 (o2+k*1) [.int .i64 (fieldsR o.kind)[k]] at hat
    have hpk:=hplc (fieldsR o.kind)[k] (hf9 _ (List.getElem_mem hx))
    have htk:=List.take_succ_eq_append_getElem hx
    have hme:=List.getElem_mem hx
    generalize (fieldsR o.kind)[k]=f at *
    repeat (first|refine zF ?_|refine zR ?_|refine zE ?_|refine zP ?_|refine zJ G ?_)
    refine yC [5] [0,1,2,3,4,5,6] (by kernel_rfl) G (by kernel_rfl) (by kernel_rfl) ?_
    repeat (first|refine yI G G G G G ?_|refine W_load G G G G (yF G) (zL (vs:=[_,_,_,_,_,_,_,_,_,_,_,_,_,_,_,_,_]) G G G) ?_|refine W_idx G G G (by omega) G G G ?_|refine W_at G G (by assumption) G G G G G ?_)
    refine W_call G G G G (zQ G G G) hpk (Kept.all _) ?_
    rintro _ _ ⟨rfl,rfl⟩
    refine ⟨by repeat (first|exact trivial|exact zG G (zS G)|exact zL G G G|exact zG G ((hat 0 _ rfl).frame)|refine ⟨?_,?_⟩),?_⟩
    by_cases n3:PlaceR o f
    ·rw [decide_eq_true n3]
     repeat (first|refine yJ ?_|refine yI G G G G G ?_)
     repeat (first|refine zB ?_|refine zE ?_|refine zK G G G ?_|refine zP ?_|refine zI G ?_|refine L_add G G (by omega) (by omega) G G ?_)
     exact ⟨hx,_,(by repeat (first|exact zT _|refine zO G ?_)),_,rfl,by
      intro x hm
      rw [htk,List.mem_append,List.mem_singleton] at hm
      rcases hm with hm|rfl
      ·exact hpre x hm
      ·exact n3,yK.out⟩
    ·rw [decide_eq_false n3]
     repeat (first|refine yJ ?_|refine yI G G G G G ?_)
     repeat (first|refine zF ?_|refine zB ?_|refine zE ?_|refine zK G G G ?_|refine zM ?_|refine zJ G ?_)
     exact fin 3 rfl (c3' (fun h=>n3 ((hpl.1 h.1).2 f hme))) yK.out
   rw [List.take_of_length_le (by omega)] at hpre
   have k8:PlacedP o:=hpl.2 ⟨⟨k5,k6,k7'⟩,hpre⟩
   clear hpre
   repeat (first|refine zF ?_|refine yD ?_|refine zB ?_|refine zE ?_|refine zZ G G G G G ?_|refine L_ld G G G G G ?_|refine zI G ?_)
   refine L_callD G G (zQ G G G) (all21_spec w0 X _ o.parts 1 4 r1 hl.1) (fun k9=>?_) (fun k9=>?_)
   rotate_left
   ·repeat (first|refine zF ?_|refine zB ?_|refine zE ?_|refine zK G G G ?_|refine L_skip G G ?_|refine zM ?_|refine zJ G ?_)
    exact fin 3 rfl (c3' (fun h=>k9 h.2.1)) yK.out
   repeat (first|refine zK G G G ?_|refine zZ G G G G G ?_|refine L_ld G G G G G ?_)
   refine L_callD G G (zQ G G G) (all21_spec w0 X _ o.reads 0 63 r2 hl.2.1) (fun ka=>?_) (fun ka=>?_)
   rotate_left
   ·repeat (first|refine zF ?_|refine zB ?_|refine zE ?_|refine zK G G G ?_|refine L_skip G G ?_|refine zM ?_|refine zJ G ?_)
    exact fin 3 rfl (c3' (fun h=>ka h.2.2.1)) yK.out
   repeat (first|refine zK G G G ?_|refine L_ldA G (vs:=[_,_,_,_,_,_,_,_,_,_,_,_,_,_,_,_,_]) G G G G G ?_)
   refine zY G G (zQ G G G) hwri ?_
   rintro _ _ ⟨h5,hob,rfl⟩
   obtain ⟨a5,c5,rfl⟩:=hob.shape
   have r5:RdL w0 (X+h5) (.slice a5 (o.writes.map Wr.block).length c5) (o.writes.map Wr.block):=hob.rd0.mono (show _=0+h5+X by rw [hzero_add]; ac_rfl)
   skip
   refine L_callD G G (zQ G G G) (all21_spec w0 (X+h5) _ (o.writes.map Wr.block) 0 63 r5 hbl) (fun kb=>?_) (fun kb=>?_)
   rotate_left
   ·repeat (first|refine zF ?_|refine zB ?_|refine zE ?_|refine zK G G G ?_|refine zM ?_|refine zJ G ?_)
    exact fin 3 rfl (c3' (fun h=>kb h.2.2.2)) yK.out
   have k34:PlacedP o∧InAll o.parts 1 4∧InAll o.reads 0 63∧InAll (o.writes.map Wr.block) 0 63:=⟨k8,k9,ka,kb⟩
   repeat (first|refine zF ?_|refine zR ?_|refine zB ?_|refine zE ?_|refine zK G G G ?_|refine zP ?_|refine zI G ?_)
   refine hold_count o.writes.length (fun k g L=>∃ R:Hp,g=[(1,.pointer (some ⟨b1,0,none⟩)),(8,.int .i64 k)]∧(∀ w∈o.writes.take k,w.data.length=4)∧L=X+pt b1 (.cells [.int .i64 o.kind,.int .i64 o.client,.int .i64 o.seq,.int .i64 o.txn,.int .i64 o.age,.int .i64 o.epoch,.int .i64 o.lo,.int .i64 o.hi,.int .i64 o.block,.int .i64 o.snap,.int .i64 o.value,.int .i64 o.src,.int .i64 o.dst,.slice x1 o.parts.length y1,.slice x2 o.reads.length y2,.slice x3 o.writes.length y3,.slice x4 o.data.length y4].toArray 49 (0,0))+fr+R) _ ⟨_,rfl,by simp,yK.out⟩ (by repeat (first|exact zT _|refine zO G ?_)) ?_
   rintro k g L hk ⟨R,rfl,hpre,rfl⟩
   repeat (first|refine zF ?_|refine zB ?_|refine zK G G G ?_|refine zZ G G G G G ?_|refine L_ld G G G G G ?_|refine L_len G G G ?_)
   refine yG G G (pv_lss G G) (fun n2=>?_) (fun n2=>?_)
   ·have hx:k<o.writes.length:=by omega
    obtain ⟨b2,o2,rfl,e,⟨a3,c3,rfl,hdat⟩,hat⟩:=r3.at hx
    repeat (first|refine zF ?_|refine zR ?_|refine zB ?_|refine zE ?_|refine zK G G G ?_|refine zZ G G G G G ?_|refine L_ld G G G G G ?_|refine L_len G G G ?_|refine zP ?_|refine zJ G ?_|refine L_idx G G (by omega) G G ?_|refine L_atf G (by assumption) G G G G ?_)
    refine yG G G (pv_neq G G) (fun n3=>?_) (fun n3=>?_)
    ·repeat (first|refine zF ?_|refine zB ?_|refine zE ?_|refine zK G G G ?_|refine zM ?_|refine zJ G ?_)
     exact fin 21 rfl (ck21 k1 k2 k3 k4' k34 (fun h=>by have:=h _ (List.getElem_mem hx); omega)) yK.out
    ·repeat (first|refine zB ?_|refine zE ?_|refine zK G G G ?_|refine zP ?_|refine zI G ?_|refine L_add G G (by omega) (by omega) G G ?_)
     exact ⟨hx,_,(by repeat (first|exact zT _|refine zO G ?_)),_,rfl,by
      intro x hm
      rw [List.take_succ_eq_append_getElem hx,List.mem_append,List.mem_singleton] at hm
      rcases hm with hm|rfl
      ·exact hpre x hm
      ·omega,yK.out⟩
   rw [List.take_of_length_le (by omega)] at hpre
   have k21:WritesP o:=hpre
   have c15:=fun h=>ck15 k1 k2 k3 k4' k34 k21 h
   repeat (first|refine zF ?_|refine yD ?_|refine zB ?_|refine zE ?_|refine zZ G G G G G ?_|refine L_ld G G G G G ?_|refine zI G ?_)
   refine L_callD G G (zQ G G G) (rises21_spec w0 X _ o.parts r1 hl.1) (fun kd=>?_) (fun kd=>?_)
   rotate_left
   ·repeat (first|refine zF ?_|refine zB ?_|refine zE ?_|refine zK G G G ?_|refine L_skip G G ?_|refine zM ?_|refine zJ G ?_)
    exact fin 15 rfl (c15 (fun h=>kd h.1)) yK.out
   repeat (first|refine zK G G G ?_|refine zZ G G G G G ?_|refine L_ld G G G G G ?_)
   refine L_callD G G (zQ G G G) (rises21_spec w0 X _ o.reads r2 hl.2.1) (fun ke=>?_) (fun ke=>?_)
   rotate_left
   ·repeat (first|refine zF ?_|refine zB ?_|refine zE ?_|refine zK G G G ?_|refine L_skip G G ?_|refine zM ?_|refine zJ G ?_)
    exact fin 15 rfl (c15 (fun h=>ke h.2.1)) yK.out
   repeat (first|refine zK G G G ?_|refine L_ldA G (vs:=[_,_,_,_,_,_,_,_,_,_,_,_,_,_,_,_,_]) G G G G G ?_)
   refine zY G G (zQ G G G) hwri ?_
   rintro _ _ ⟨h6,hob6,rfl⟩
   obtain ⟨a6,c6,rfl⟩:=hob6.shape
   have r6:RdL w0 (X+h6) (.slice a6 (o.writes.map Wr.block).length c6) (o.writes.map Wr.block):=hob6.rd0.mono (show _=0+h6+X by rw [hzero_add]; ac_rfl)
   skip
   refine L_callD G G (zQ G G G) (rises21_spec w0 (X+h6) _ (o.writes.map Wr.block) r6 hbl) (fun kf=>?_) (fun kf=>?_)
   rotate_left
   ·repeat (first|refine zF ?_|refine zB ?_|refine zE ?_|refine zK G G G ?_|refine zM ?_|refine zJ G ?_)
    exact fin 15 rfl (c15 (fun h=>kf h.2.2)) yK.out
   repeat (first|refine zF ?_|refine zB ?_|refine zE ?_|refine zK G G G ?_|refine zP ?_|refine zM ?_|refine zI G ?_)
   exact fin 0 rfl (ck0 k1 k2 k3 k4' k34 k21 ⟨kd,ke,kf⟩) yK.out
  ·refine L_yes G G (pv_neq G G) (by omega) ?_
   repeat (first|refine zK G G G ?_|refine zZ G G G G G ?_|refine L_ld G G G G G ?_|refine L_len G G G ?_|refine L_add G G (by omega) (by omega) G G ?_)
   refine L_no G G (pv_gtr G G) (by omega) ?_
   repeat (first|refine zK G G G ?_|refine zZ G G G G G ?_|refine L_ld G G G G G ?_)
   refine L_no G G (pv_neq G G) (by omega) ?_
   repeat (first|refine zF ?_|refine zB ?_|refine zE ?_|refine zK G G G ?_|refine zZ G G G G G ?_|refine L_ld G G G G G ?_|refine L_len G G G ?_|refine L_skip G G ?_|refine zP ?_|refine zI G ?_)
   by_cases k3:4<o.parts.length∨16<o.reads.length∨8<o.writes.length
   ·repeat' (first|refine zF ?_|refine zB ?_|refine zE ?_|refine zK G G G ?_|refine L_skip G G ?_|refine zM ?_|refine zJ G ?_|refine L_yes G G (pv_gtr G G) (by omega) ?_|exact fin 17 rfl (ck17 k1 k2 k3) yK.out|done)
   refine L_no G G (pv_gtr G G) (by omega) ?_
   repeat (first|refine zK G G G ?_|refine zZ G G G G G ?_|refine L_ld G G G G G ?_|refine L_len G G G ?_)
   refine L_no G G (pv_gtr G G) (by omega) ?_
   repeat (first|refine zK G G G ?_|refine zZ G G G G G ?_|refine L_ld G G G G G ?_|refine L_len G G G ?_)
   refine L_no G G (pv_gtr G G) (by omega) ?_
   repeat (first|refine zF ?_|refine zB ?_|refine zE ?_|refine zK G G G ?_|refine zZ G G G G G ?_|refine L_ld G G G G G ?_|refine L_len G G G ?_|refine zP ?_|refine zI G ?_)
   refine yG G G (pv_gtr G G) (fun k4=>?_) (fun k4=>?_)
   ·repeat (first|refine zF ?_|refine zB ?_|refine zE ?_|refine zK G G G ?_|refine zM ?_|refine zJ G ?_)
    exact fin 2 rfl (ck2 k1 k2 k3 (by omega)) yK.out
   have k4':¬ 32768<o.data.length:=by omega
   have c3':=fun h=>ck3 k1 k2 k3 k4' h
   have hpl:=place_iff o k1 hbn
   repeat (first|refine zF ?_|refine zB ?_|refine zE ?_|refine zZ G G G G G ?_|refine L_ld G G G G G ?_|refine zP ?_|refine zI G ?_)
   refine L_callD G G (zQ G G G) (between21_spec w0 o.client 0 4) (fun k5=>?_) (fun k5=>?_)
   rotate_left
   ·repeat (first|refine zF ?_|refine zB ?_|refine zE ?_|refine zK G G G ?_|refine L_skip G G ?_|refine zM ?_|refine zJ G ?_)
    exact fin 3 rfl (c3' (fun h=>k5 (hpl.1 h.1).1.1)) yK.out
   repeat (first|refine zK G G G ?_|refine zZ G G G G G ?_|refine L_ld G G G G G ?_)
   refine L_callD G G (zQ G G G) (between21_spec w0 o.seq 0 1099511627776) (fun k6=>?_) (fun k6=>?_)
   rotate_left
   ·repeat (first|refine zF ?_|refine zB ?_|refine zE ?_|refine zK G G G ?_|refine L_skip G G ?_|refine zM ?_|refine zJ G ?_)
    exact fin 3 rfl (c3' (fun h=>k6 (hpl.1 h.1).1.2.1)) yK.out
   repeat (first|refine zK G G G ?_|refine zZ G G G G G ?_|refine L_ld G G G G G ?_)
   refine L_no G G (pv_eql G G) (by omega) ?_
   have k7':o.kind=2→0<o.parts.length:=fun h=>by omega
   repeat (first|refine zF ?_|refine zR ?_|refine zB ?_|refine zE ?_|refine zK G G G ?_|refine L_skip G G ?_|refine zP ?_|refine zI G ?_)
   refine hold_count (fieldsR o.kind).length (fun k g L=>∃ R:Hp,g=[(1,.pointer (some ⟨b1,0,none⟩)),(3,.slice af (fieldsR o.kind).length cf),(7,.int .i64 k)]∧(∀ f∈(fieldsR o.kind).take k,PlaceR o f)∧L=X+hf+hr+pt b1 (.cells [.int .i64 o.kind,.int .i64 o.client,.int .i64 o.seq,.int .i64 o.txn,.int .i64 o.age,.int .i64 o.epoch,.int .i64 o.lo,.int .i64 o.hi,.int .i64 o.block,.int .i64 o.snap,.int .i64 o.value,.int .i64 o.src,.int .i64 o.dst,.slice x1 o.parts.length y1,.slice x2 o.reads.length y2,.slice x3 o.writes.length y3,.slice x4 o.data.length y4].toArray 49 (0,0))+fr+R) _ ⟨_,rfl,by simp,yK.out⟩ (by repeat (first|exact zT _|refine zO G ?_)) ?_
   rintro k g L hk ⟨R,rfl,hpre,rfl⟩
   repeat (first|refine zF ?_|refine zB ?_|refine zK G G G ?_|refine L_len G G G ?_)
   refine yG G G (pv_lss G G) (fun n2=>?_) (fun n2=>?_)
   ·have hx:k<(fieldsR o.kind).length:=by omega
    obtain ⟨b2,o2,rfl,e,rfl,hat⟩:=hrf.at hx
    change At w0 _ b2 (o2+k*1) [.int .i64 (fieldsR o.kind)[k]] at hat
    have hpk:=hplc (fieldsR o.kind)[k] (hf9 _ (List.getElem_mem hx))
    have htk:=List.take_succ_eq_append_getElem hx
    have hme:=List.getElem_mem hx
    generalize (fieldsR o.kind)[k]=f at *
    repeat (first|refine zF ?_|refine zR ?_|refine zE ?_|refine zP ?_|refine zJ G ?_)
    refine yC [5] [0,1,2,3,4,5,6] (by kernel_rfl) G (by kernel_rfl) (by kernel_rfl) ?_
    repeat (first|refine yI G G G G G ?_|refine W_load G G G G (yF G) (zL (vs:=[_,_,_,_,_,_,_,_,_,_,_,_,_,_,_,_,_]) G G G) ?_|refine W_idx G G G (by omega) G G G ?_|refine W_at G G (by assumption) G G G G G ?_)
    refine W_call G G G G (zQ G G G) hpk (Kept.all _) ?_
    rintro _ _ ⟨rfl,rfl⟩
    refine ⟨by repeat (first|exact trivial|exact zG G (zS G)|exact zL G G G|exact zG G ((hat 0 _ rfl).frame)|refine ⟨?_,?_⟩),?_⟩
    by_cases n3:PlaceR o f
    ·rw [decide_eq_true n3]
     repeat (first|refine yJ ?_|refine yI G G G G G ?_)
     repeat (first|refine zB ?_|refine zE ?_|refine zK G G G ?_|refine zP ?_|refine zI G ?_|refine L_add G G (by omega) (by omega) G G ?_)
     exact ⟨hx,_,(by repeat (first|exact zT _|refine zO G ?_)),_,rfl,by
      intro x hm
      rw [htk,List.mem_append,List.mem_singleton] at hm
      rcases hm with hm|rfl
      ·exact hpre x hm
      ·exact n3,yK.out⟩
    ·rw [decide_eq_false n3]
     repeat (first|refine yJ ?_|refine yI G G G G G ?_)
     repeat (first|refine zF ?_|refine zB ?_|refine zE ?_|refine zK G G G ?_|refine zM ?_|refine zJ G ?_)
     exact fin 3 rfl (c3' (fun h=>n3 ((hpl.1 h.1).2 f hme))) yK.out
   rw [List.take_of_length_le (by omega)] at hpre
   have k8:PlacedP o:=hpl.2 ⟨⟨k5,k6,k7'⟩,hpre⟩
   clear hpre
   repeat (first|refine zF ?_|refine yD ?_|refine zB ?_|refine zE ?_|refine zZ G G G G G ?_|refine L_ld G G G G G ?_|refine zI G ?_)
   refine L_callD G G (zQ G G G) (all21_spec w0 X _ o.parts 1 4 r1 hl.1) (fun k9=>?_) (fun k9=>?_)
   rotate_left
   ·repeat (first|refine zF ?_|refine zB ?_|refine zE ?_|refine zK G G G ?_|refine L_skip G G ?_|refine zM ?_|refine zJ G ?_)
    exact fin 3 rfl (c3' (fun h=>k9 h.2.1)) yK.out
   repeat (first|refine zK G G G ?_|refine zZ G G G G G ?_|refine L_ld G G G G G ?_)
   refine L_callD G G (zQ G G G) (all21_spec w0 X _ o.reads 0 63 r2 hl.2.1) (fun ka=>?_) (fun ka=>?_)
   rotate_left
   ·repeat (first|refine zF ?_|refine zB ?_|refine zE ?_|refine zK G G G ?_|refine L_skip G G ?_|refine zM ?_|refine zJ G ?_)
    exact fin 3 rfl (c3' (fun h=>ka h.2.2.1)) yK.out
   repeat (first|refine zK G G G ?_|refine L_ldA G (vs:=[_,_,_,_,_,_,_,_,_,_,_,_,_,_,_,_,_]) G G G G G ?_)
   refine zY G G (zQ G G G) hwri ?_
   rintro _ _ ⟨h5,hob,rfl⟩
   obtain ⟨a5,c5,rfl⟩:=hob.shape
   have r5:RdL w0 (X+h5) (.slice a5 (o.writes.map Wr.block).length c5) (o.writes.map Wr.block):=hob.rd0.mono (show _=0+h5+X by rw [hzero_add]; ac_rfl)
   skip
   refine L_callD G G (zQ G G G) (all21_spec w0 (X+h5) _ (o.writes.map Wr.block) 0 63 r5 hbl) (fun kb=>?_) (fun kb=>?_)
   rotate_left
   ·repeat (first|refine zF ?_|refine zB ?_|refine zE ?_|refine zK G G G ?_|refine zM ?_|refine zJ G ?_)
    exact fin 3 rfl (c3' (fun h=>kb h.2.2.2)) yK.out
   have k34:PlacedP o∧InAll o.parts 1 4∧InAll o.reads 0 63∧InAll (o.writes.map Wr.block) 0 63:=⟨k8,k9,ka,kb⟩
   repeat (first|refine zF ?_|refine zR ?_|refine zB ?_|refine zE ?_|refine zK G G G ?_|refine zP ?_|refine zI G ?_)
   refine hold_count o.writes.length (fun k g L=>∃ R:Hp,g=[(1,.pointer (some ⟨b1,0,none⟩)),(8,.int .i64 k)]∧(∀ w∈o.writes.take k,w.data.length=4)∧L=X+pt b1 (.cells [.int .i64 o.kind,.int .i64 o.client,.int .i64 o.seq,.int .i64 o.txn,.int .i64 o.age,.int .i64 o.epoch,.int .i64 o.lo,.int .i64 o.hi,.int .i64 o.block,.int .i64 o.snap,.int .i64 o.value,.int .i64 o.src,.int .i64 o.dst,.slice x1 o.parts.length y1,.slice x2 o.reads.length y2,.slice x3 o.writes.length y3,.slice x4 o.data.length y4].toArray 49 (0,0))+fr+R) _ ⟨_,rfl,by simp,yK.out⟩ (by repeat (first|exact zT _|refine zO G ?_)) ?_
   rintro k g L hk ⟨R,rfl,hpre,rfl⟩
   repeat (first|refine zF ?_|refine zB ?_|refine zK G G G ?_|refine zZ G G G G G ?_|refine L_ld G G G G G ?_|refine L_len G G G ?_)
   refine yG G G (pv_lss G G) (fun n2=>?_) (fun n2=>?_)
   ·have hx:k<o.writes.length:=by omega
    obtain ⟨b2,o2,rfl,e,⟨a3,c3,rfl,hdat⟩,hat⟩:=r3.at hx
    repeat (first|refine zF ?_|refine zR ?_|refine zB ?_|refine zE ?_|refine zK G G G ?_|refine zZ G G G G G ?_|refine L_ld G G G G G ?_|refine L_len G G G ?_|refine zP ?_|refine zJ G ?_|refine L_idx G G (by omega) G G ?_|refine L_atf G (by assumption) G G G G ?_)
    refine yG G G (pv_neq G G) (fun n3=>?_) (fun n3=>?_)
    ·repeat (first|refine zF ?_|refine zB ?_|refine zE ?_|refine zK G G G ?_|refine zM ?_|refine zJ G ?_)
     exact fin 21 rfl (ck21 k1 k2 k3 k4' k34 (fun h=>by have:=h _ (List.getElem_mem hx); omega)) yK.out
    ·repeat (first|refine zB ?_|refine zE ?_|refine zK G G G ?_|refine zP ?_|refine zI G ?_|refine L_add G G (by omega) (by omega) G G ?_)
     exact ⟨hx,_,(by repeat (first|exact zT _|refine zO G ?_)),_,rfl,by
      intro x hm
      rw [List.take_succ_eq_append_getElem hx,List.mem_append,List.mem_singleton] at hm
      rcases hm with hm|rfl
      ·exact hpre x hm
      ·omega,yK.out⟩
   rw [List.take_of_length_le (by omega)] at hpre
   have k21:WritesP o:=hpre
   have c15:=fun h=>ck15 k1 k2 k3 k4' k34 k21 h
   repeat (first|refine zF ?_|refine yD ?_|refine zB ?_|refine zE ?_|refine zZ G G G G G ?_|refine L_ld G G G G G ?_|refine zI G ?_)
   refine L_callD G G (zQ G G G) (rises21_spec w0 X _ o.parts r1 hl.1) (fun kd=>?_) (fun kd=>?_)
   rotate_left
   ·repeat (first|refine zF ?_|refine zB ?_|refine zE ?_|refine zK G G G ?_|refine L_skip G G ?_|refine zM ?_|refine zJ G ?_)
    exact fin 15 rfl (c15 (fun h=>kd h.1)) yK.out
   repeat (first|refine zK G G G ?_|refine zZ G G G G G ?_|refine L_ld G G G G G ?_)
   refine L_callD G G (zQ G G G) (rises21_spec w0 X _ o.reads r2 hl.2.1) (fun ke=>?_) (fun ke=>?_)
   rotate_left
   ·repeat (first|refine zF ?_|refine zB ?_|refine zE ?_|refine zK G G G ?_|refine L_skip G G ?_|refine zM ?_|refine zJ G ?_)
    exact fin 15 rfl (c15 (fun h=>ke h.2.1)) yK.out
   repeat (first|refine zK G G G ?_|refine L_ldA G (vs:=[_,_,_,_,_,_,_,_,_,_,_,_,_,_,_,_,_]) G G G G G ?_)
   refine zY G G (zQ G G G) hwri ?_
   rintro _ _ ⟨h6,hob6,rfl⟩
   obtain ⟨a6,c6,rfl⟩:=hob6.shape
   have r6:RdL w0 (X+h6) (.slice a6 (o.writes.map Wr.block).length c6) (o.writes.map Wr.block):=hob6.rd0.mono (show _=0+h6+X by rw [hzero_add]; ac_rfl)
   skip
   refine L_callD G G (zQ G G G) (rises21_spec w0 (X+h6) _ (o.writes.map Wr.block) r6 hbl) (fun kf=>?_) (fun kf=>?_)
   rotate_left
   ·repeat (first|refine zF ?_|refine zB ?_|refine zE ?_|refine zK G G G ?_|refine zM ?_|refine zJ G ?_)
    exact fin 15 rfl (c15 (fun h=>kf h.2.2)) yK.out
   repeat (first|refine zF ?_|refine zB ?_|refine zE ?_|refine zK G G G ?_|refine zP ?_|refine zM ?_|refine zI G ?_)
   exact fin 0 rfl (ck0 k1 k2 k3 k4' k34 k21 ⟨kd,ke,kf⟩) yK.out
  ·refine L_yes G G (pv_neq G G) (by omega) ?_
   repeat (first|refine zK G G G ?_|refine zZ G G G G G ?_|refine L_ld G G G G G ?_|refine L_len G G G ?_|refine L_add G G (by omega) (by omega) G G ?_)
   refine L_no G G (pv_gtr G G) (by omega) ?_
   repeat (first|refine zK G G G ?_|refine zZ G G G G G ?_|refine L_ld G G G G G ?_)
   refine L_yes G G (pv_neq G G) (by omega) ?_
   repeat (first|refine zK G G G ?_|refine zZ G G G G G ?_|refine L_ld G G G G G ?_|refine L_len G G G ?_)
   refine L_no G G (pv_gtr G G) (by omega) ?_
   repeat (first|refine zF ?_|refine zB ?_|refine zE ?_|refine zK G G G ?_|refine zZ G G G G G ?_|refine L_ld G G G G G ?_|refine L_len G G G ?_|refine zP ?_|refine zI G ?_)
   by_cases k3:4<o.parts.length∨16<o.reads.length∨8<o.writes.length
   ·repeat' (first|refine zF ?_|refine zB ?_|refine zE ?_|refine zK G G G ?_|refine L_skip G G ?_|refine zM ?_|refine zJ G ?_|refine L_yes G G (pv_gtr G G) (by omega) ?_|exact fin 17 rfl (ck17 k1 k2 k3) yK.out|done)
   refine L_no G G (pv_gtr G G) (by omega) ?_
   repeat (first|refine zK G G G ?_|refine zZ G G G G G ?_|refine L_ld G G G G G ?_|refine L_len G G G ?_)
   refine L_no G G (pv_gtr G G) (by omega) ?_
   repeat (first|refine zK G G G ?_|refine zZ G G G G G ?_|refine L_ld G G G G G ?_|refine L_len G G G ?_)
   refine L_no G G (pv_gtr G G) (by omega) ?_
   repeat (first|refine zF ?_|refine zB ?_|refine zE ?_|refine zK G G G ?_|refine zZ G G G G G ?_|refine L_ld G G G G G ?_|refine L_len G G G ?_|refine zP ?_|refine zI G ?_)
   refine yG G G (pv_gtr G G) (fun k4=>?_) (fun k4=>?_)
   ·repeat (first|refine zF ?_|refine zB ?_|refine zE ?_|refine zK G G G ?_|refine zM ?_|refine zJ G ?_)
    exact fin 2 rfl (ck2 k1 k2 k3 (by omega)) yK.out
   have k4':¬ 32768<o.data.length:=by omega
   have c3':=fun h=>ck3 k1 k2 k3 k4' h
   have hpl:=place_iff o k1 hbn
   repeat (first|refine zF ?_|refine zB ?_|refine zE ?_|refine zZ G G G G G ?_|refine L_ld G G G G G ?_|refine zP ?_|refine zI G ?_)
   refine L_callD G G (zQ G G G) (between21_spec w0 o.client 0 4) (fun k5=>?_) (fun k5=>?_)
   rotate_left
   ·repeat (first|refine zF ?_|refine zB ?_|refine zE ?_|refine zK G G G ?_|refine L_skip G G ?_|refine zM ?_|refine zJ G ?_)
    exact fin 3 rfl (c3' (fun h=>k5 (hpl.1 h.1).1.1)) yK.out
   repeat (first|refine zK G G G ?_|refine zZ G G G G G ?_|refine L_ld G G G G G ?_)
   refine L_callD G G (zQ G G G) (between21_spec w0 o.seq 0 1099511627776) (fun k6=>?_) (fun k6=>?_)
   rotate_left
   ·repeat (first|refine zF ?_|refine zB ?_|refine zE ?_|refine zK G G G ?_|refine L_skip G G ?_|refine zM ?_|refine zJ G ?_)
    exact fin 3 rfl (c3' (fun h=>k6 (hpl.1 h.1).1.2.1)) yK.out
   repeat (first|refine zK G G G ?_|refine zZ G G G G G ?_|refine L_ld G G G G G ?_)
   refine L_no G G (pv_eql G G) (by omega) ?_
   have k7':o.kind=2→0<o.parts.length:=fun h=>by omega
   repeat (first|refine zF ?_|refine zR ?_|refine zB ?_|refine zE ?_|refine zK G G G ?_|refine L_skip G G ?_|refine zP ?_|refine zI G ?_)
   refine hold_count (fieldsR o.kind).length (fun k g L=>∃ R:Hp,g=[(1,.pointer (some ⟨b1,0,none⟩)),(3,.slice af (fieldsR o.kind).length cf),(7,.int .i64 k)]∧(∀ f∈(fieldsR o.kind).take k,PlaceR o f)∧L=X+hf+hr+pt b1 (.cells [.int .i64 o.kind,.int .i64 o.client,.int .i64 o.seq,.int .i64 o.txn,.int .i64 o.age,.int .i64 o.epoch,.int .i64 o.lo,.int .i64 o.hi,.int .i64 o.block,.int .i64 o.snap,.int .i64 o.value,.int .i64 o.src,.int .i64 o.dst,.slice x1 o.parts.length y1,.slice x2 o.reads.length y2,.slice x3 o.writes.length y3,.slice x4 o.data.length y4].toArray 49 (0,0))+fr+R) _ ⟨_,rfl,by simp,yK.out⟩ (by repeat (first|exact zT _|refine zO G ?_)) ?_
   rintro k g L hk ⟨R,rfl,hpre,rfl⟩
   repeat (first|refine zF ?_|refine zB ?_|refine zK G G G ?_|refine L_len G G G ?_)
   refine yG G G (pv_lss G G) (fun n2=>?_) (fun n2=>?_)
   ·have hx:k<(fieldsR o.kind).length:=by omega
    obtain ⟨b2,o2,rfl,e,rfl,hat⟩:=hrf.at hx
    change At w0 _ b2 (o2+k*1) [.int .i64 (fieldsR o.kind)[k]] at hat
    have hpk:=hplc (fieldsR o.kind)[k] (hf9 _ (List.getElem_mem hx))
    have htk:=List.take_succ_eq_append_getElem hx
    have hme:=List.getElem_mem hx
    generalize (fieldsR o.kind)[k]=f at *
    repeat (first|refine zF ?_|refine zR ?_|refine zE ?_|refine zP ?_|refine zJ G ?_)
    refine yC [5] [0,1,2,3,4,5,6] (by kernel_rfl) G (by kernel_rfl) (by kernel_rfl) ?_
    repeat (first|refine yI G G G G G ?_|refine W_load G G G G (yF G) (zL (vs:=[_,_,_,_,_,_,_,_,_,_,_,_,_,_,_,_,_]) G G G) ?_|refine W_idx G G G (by omega) G G G ?_|refine W_at G G (by assumption) G G G G G ?_)
    refine W_call G G G G (zQ G G G) hpk (Kept.all _) ?_
    rintro _ _ ⟨rfl,rfl⟩
    refine ⟨by repeat (first|exact trivial|exact zG G (zS G)|exact zL G G G|exact zG G ((hat 0 _ rfl).frame)|refine ⟨?_,?_⟩),?_⟩
    by_cases n3:PlaceR o f
    ·rw [decide_eq_true n3]
     repeat (first|refine yJ ?_|refine yI G G G G G ?_)
     repeat (first|refine zB ?_|refine zE ?_|refine zK G G G ?_|refine zP ?_|refine zI G ?_|refine L_add G G (by omega) (by omega) G G ?_)
     exact ⟨hx,_,(by repeat (first|exact zT _|refine zO G ?_)),_,rfl,by
      intro x hm
      rw [htk,List.mem_append,List.mem_singleton] at hm
      rcases hm with hm|rfl
      ·exact hpre x hm
      ·exact n3,yK.out⟩
    ·rw [decide_eq_false n3]
     repeat (first|refine yJ ?_|refine yI G G G G G ?_)
     repeat (first|refine zF ?_|refine zB ?_|refine zE ?_|refine zK G G G ?_|refine zM ?_|refine zJ G ?_)
     exact fin 3 rfl (c3' (fun h=>n3 ((hpl.1 h.1).2 f hme))) yK.out
   rw [List.take_of_length_le (by omega)] at hpre
   have k8:PlacedP o:=hpl.2 ⟨⟨k5,k6,k7'⟩,hpre⟩
   clear hpre
   repeat (first|refine zF ?_|refine yD ?_|refine zB ?_|refine zE ?_|refine zZ G G G G G ?_|refine L_ld G G G G G ?_|refine zI G ?_)
   refine L_callD G G (zQ G G G) (all21_spec w0 X _ o.parts 1 4 r1 hl.1) (fun k9=>?_) (fun k9=>?_)
   rotate_left
   ·repeat (first|refine zF ?_|refine zB ?_|refine zE ?_|refine zK G G G ?_|refine L_skip G G ?_|refine zM ?_|refine zJ G ?_)
    exact fin 3 rfl (c3' (fun h=>k9 h.2.1)) yK.out
   repeat (first|refine zK G G G ?_|refine zZ G G G G G ?_|refine L_ld G G G G G ?_)
   refine L_callD G G (zQ G G G) (all21_spec w0 X _ o.reads 0 63 r2 hl.2.1) (fun ka=>?_) (fun ka=>?_)
   rotate_left
   ·repeat (first|refine zF ?_|refine zB ?_|refine zE ?_|refine zK G G G ?_|refine L_skip G G ?_|refine zM ?_|refine zJ G ?_)
    exact fin 3 rfl (c3' (fun h=>ka h.2.2.1)) yK.out
   repeat (first|refine zK G G G ?_|refine L_ldA G (vs:=[_,_,_,_,_,_,_,_,_,_,_,_,_,_,_,_,_]) G G G G G ?_)
   refine zY G G (zQ G G G) hwri ?_
   rintro _ _ ⟨h5,hob,rfl⟩
   obtain ⟨a5,c5,rfl⟩:=hob.shape
   have r5:RdL w0 (X+h5) (.slice a5 (o.writes.map Wr.block).length c5) (o.writes.map Wr.block):=hob.rd0.mono (show _=0+h5+X by rw [hzero_add]; ac_rfl)
   skip
   refine L_callD G G (zQ G G G) (all21_spec w0 (X+h5) _ (o.writes.map Wr.block) 0 63 r5 hbl) (fun kb=>?_) (fun kb=>?_)
   rotate_left
   ·repeat (first|refine zF ?_|refine zB ?_|refine zE ?_|refine zK G G G ?_|refine zM ?_|refine zJ G ?_)
    exact fin 3 rfl (c3' (fun h=>kb h.2.2.2)) yK.out
   have k34:PlacedP o∧InAll o.parts 1 4∧InAll o.reads 0 63∧InAll (o.writes.map Wr.block) 0 63:=⟨k8,k9,ka,kb⟩
   repeat (first|refine zF ?_|refine zR ?_|refine zB ?_|refine zE ?_|refine zK G G G ?_|refine zP ?_|refine zI G ?_)
   refine hold_count o.writes.length (fun k g L=>∃ R:Hp,g=[(1,.pointer (some ⟨b1,0,none⟩)),(8,.int .i64 k)]∧(∀ w∈o.writes.take k,w.data.length=4)∧L=X+pt b1 (.cells [.int .i64 o.kind,.int .i64 o.client,.int .i64 o.seq,.int .i64 o.txn,.int .i64 o.age,.int .i64 o.epoch,.int .i64 o.lo,.int .i64 o.hi,.int .i64 o.block,.int .i64 o.snap,.int .i64 o.value,.int .i64 o.src,.int .i64 o.dst,.slice x1 o.parts.length y1,.slice x2 o.reads.length y2,.slice x3 o.writes.length y3,.slice x4 o.data.length y4].toArray 49 (0,0))+fr+R) _ ⟨_,rfl,by simp,yK.out⟩ (by repeat (first|exact zT _|refine zO G ?_)) ?_
   rintro k g L hk ⟨R,rfl,hpre,rfl⟩
   repeat (first|refine zF ?_|refine zB ?_|refine zK G G G ?_|refine zZ G G G G G ?_|refine L_ld G G G G G ?_|refine L_len G G G ?_)
   refine yG G G (pv_lss G G) (fun n2=>?_) (fun n2=>?_)
   ·have hx:k<o.writes.length:=by omega
    obtain ⟨b2,o2,rfl,e,⟨a3,c3,rfl,hdat⟩,hat⟩:=r3.at hx
    repeat (first|refine zF ?_|refine zR ?_|refine zB ?_|refine zE ?_|refine zK G G G ?_|refine zZ G G G G G ?_|refine L_ld G G G G G ?_|refine L_len G G G ?_|refine zP ?_|refine zJ G ?_|refine L_idx G G (by omega) G G ?_|refine L_atf G (by assumption) G G G G ?_)
    refine yG G G (pv_neq G G) (fun n3=>?_) (fun n3=>?_)
    ·repeat (first|refine zF ?_|refine zB ?_|refine zE ?_|refine zK G G G ?_|refine zM ?_|refine zJ G ?_)
     exact fin 21 rfl (ck21 k1 k2 k3 k4' k34 (fun h=>by have:=h _ (List.getElem_mem hx); omega)) yK.out
    ·repeat (first|refine zB ?_|refine zE ?_|refine zK G G G ?_|refine zP ?_|refine zI G ?_|refine L_add G G (by omega) (by omega) G G ?_)
     exact ⟨hx,_,(by repeat (first|exact zT _|refine zO G ?_)),_,rfl,by
      intro x hm
      rw [List.take_succ_eq_append_getElem hx,List.mem_append,List.mem_singleton] at hm
      rcases hm with hm|rfl
      ·exact hpre x hm
      ·omega,yK.out⟩
   rw [List.take_of_length_le (by omega)] at hpre
   have k21:WritesP o:=hpre
   have c15:=fun h=>ck15 k1 k2 k3 k4' k34 k21 h
   repeat (first|refine zF ?_|refine yD ?_|refine zB ?_|refine zE ?_|refine zZ G G G G G ?_|refine L_ld G G G G G ?_|refine zI G ?_)
   refine L_callD G G (zQ G G G) (rises21_spec w0 X _ o.parts r1 hl.1) (fun kd=>?_) (fun kd=>?_)
   rotate_left
   ·repeat (first|refine zF ?_|refine zB ?_|refine zE ?_|refine zK G G G ?_|refine L_skip G G ?_|refine zM ?_|refine zJ G ?_)
    exact fin 15 rfl (c15 (fun h=>kd h.1)) yK.out
   repeat (first|refine zK G G G ?_|refine zZ G G G G G ?_|refine L_ld G G G G G ?_)
   refine L_callD G G (zQ G G G) (rises21_spec w0 X _ o.reads r2 hl.2.1) (fun ke=>?_) (fun ke=>?_)
   rotate_left
   ·repeat (first|refine zF ?_|refine zB ?_|refine zE ?_|refine zK G G G ?_|refine L_skip G G ?_|refine zM ?_|refine zJ G ?_)
    exact fin 15 rfl (c15 (fun h=>ke h.2.1)) yK.out
   repeat (first|refine zK G G G ?_|refine L_ldA G (vs:=[_,_,_,_,_,_,_,_,_,_,_,_,_,_,_,_,_]) G G G G G ?_)
   refine zY G G (zQ G G G) hwri ?_
   rintro _ _ ⟨h6,hob6,rfl⟩
   obtain ⟨a6,c6,rfl⟩:=hob6.shape
   have r6:RdL w0 (X+h6) (.slice a6 (o.writes.map Wr.block).length c6) (o.writes.map Wr.block):=hob6.rd0.mono (show _=0+h6+X by rw [hzero_add]; ac_rfl)
   skip
   refine L_callD G G (zQ G G G) (rises21_spec w0 (X+h6) _ (o.writes.map Wr.block) r6 hbl) (fun kf=>?_) (fun kf=>?_)
   rotate_left
   ·repeat (first|refine zF ?_|refine zB ?_|refine zE ?_|refine zK G G G ?_|refine zM ?_|refine zJ G ?_)
    exact fin 15 rfl (c15 (fun h=>kf h.2.2)) yK.out
   repeat (first|refine zF ?_|refine zB ?_|refine zE ?_|refine zK G G G ?_|refine zP ?_|refine zM ?_|refine zI G ?_)
   exact fin 0 rfl (ck0 k1 k2 k3 k4' k34 k21 ⟨kd,ke,kf⟩) yK.out
end Sl
end Go.Proofs.YtpkealohodeifaaGreat
namespace Go.Proofs.YtpkealohodeifaaGreat
open Go Go.RowKit
namespace Sl
set_option maxHeartbeats 16000000
set_option maxRecDepth 4000
set_option synthInstance.maxHeartbeats 400000
set_option synthInstance.maxSize 100000
attribute [local irreducible] Hold HoldL HoldW
theorem copyB_spec (w0:World) (X:Hp) (v:Value) (l:List Bt) (hv:RdL w0 X v l) (hl:l.length≤1000000000) :
  Spec Tryz.prog w0 177 [v] X (fun r h'=>∃ h,OwL w0 0 l r h∧X+h=h'):=by
 obtain ⟨a,c,rfl⟩:=hv.shape
 refine zN Tryz.func177 G Tryz.ntmps177 Tryz.results177 G fun fr=>?_
 repeat (first|refine zF ?_|refine zR ?_|refine zB ?_|refine zE ?_|refine zK G G G ?_)
 refine hold_count l.length (fun k g L=>∃ (vo:Value) (h R:Hp),g=[(0,.slice a l.length c),(3,vo),(4,.int .i64 k)]∧OwL w0 0 (l.take k) vo h∧L=X+h+fr+R) _
  ⟨.slice none 0 0,0,_,rfl,OwL.nil _ _,by simp only [yB]; exact yK.out⟩ (by repeat (first|exact zT _|refine zO G ?_)) ?_
 rintro k g L hk ⟨vo,h,R,rfl,ho,rfl⟩
 repeat (first|refine zF ?_|refine zB ?_|refine zK G G G ?_|refine L_len G G G ?_)
 refine yG G G (pv_lss G G) (fun n1=>?_) (fun n1=>?_)
 ·have hx:k<l.length:=by omega
  obtain ⟨b2,o2,rfl,e,rfl,hat⟩:=hv.at hx
  repeat (first|refine zF ?_|refine zR ?_|refine zB ?_|refine zE ?_|refine zK G G G ?_|refine zP ?_|refine zJ G ?_|refine L_idx G G (by omega) G G ?_|refine L_at G (by assumption) G G G G ?_|refine L_bs (vs:=[_]) (cells:=[_]) G G G G G G (fun _=>?_))
  refine L_eff G G (ev_appendL (X:=0) (ns:=[l[k]]) (h:=h) G G ho (rd_one G) (All2.one G) G G G G G (by simp only [List.length_take,List.length_singleton]; omega)) ?_
  rintro vo' _ ⟨h',ho',rfl⟩
  rw [← List.take_succ_eq_append_getElem hx] at ho'
  repeat (first|refine zB ?_|refine zE ?_|refine zK G G G ?_|refine L_add G G (by omega) (by omega) G G ?_)
  exact ⟨hx,_,(by repeat (first|exact zT _|refine zO G ?_)),vo',h',_,rfl,ho',yK.out⟩
 ·rw [List.take_of_length_le (by omega)] at ho
  repeat (first|refine zF ?_|refine yD ?_|refine zB ?_|refine zE ?_|refine zK G G G ?_|refine zM ?_|refine zI G ?_)
  exact ⟨[_],X+h,_,⟨rfl,trivial⟩,⟨h,ho,rfl⟩,yK.out⟩
theorem copyI_spec (w0:World) (X:Hp) (v:Value) (l:List Int) (hv:RdL w0 X v l) (hl:l.length≤1000000000) :
  Spec Tryz.prog w0 127 [v] X (fun r h'=>∃ h,OwL w0 0 l r h∧X+h=h'):=by
 obtain ⟨a,c,rfl⟩:=hv.shape
 refine zN Tryz.func127 G Tryz.ntmps127 Tryz.results127 G fun fr=>?_
 repeat (first|refine zF ?_|refine zR ?_|refine zB ?_|refine zE ?_|refine zK G G G ?_)
 refine hold_count l.length (fun k g L=>∃ (vo:Value) (h R:Hp),g=[(0,.slice a l.length c),(3,vo),(4,.int .i64 k)]∧OwL w0 0 (l.take k) vo h∧L=X+h+fr+R) _
  ⟨.slice none 0 0,0,_,rfl,OwL.nil _ _,by simp only [yB]; exact yK.out⟩ (by repeat (first|exact zT _|refine zO G ?_)) ?_
 rintro k g L hk ⟨vo,h,R,rfl,ho,rfl⟩
 repeat (first|refine zF ?_|refine zB ?_|refine zK G G G ?_|refine L_len G G G ?_)
 refine yG G G (pv_lss G G) (fun n1=>?_) (fun n1=>?_)
 ·have hx:k<l.length:=by omega
  obtain ⟨b2,o2,rfl,e,rfl,hat⟩:=hv.at hx
  repeat (first|refine zF ?_|refine zR ?_|refine zB ?_|refine zE ?_|refine zK G G G ?_|refine zP ?_|refine zJ G ?_|refine L_idx G G (by omega) G G ?_|refine L_at G (by assumption) G G G G ?_|refine L_bs (vs:=[_]) (cells:=[_]) G G G G G G (fun _=>?_))
  refine L_eff G G (ev_appendL (X:=0) (ns:=[l[k]]) (h:=h) G G ho (rd_one G) (All2.one G) G G G G G (by simp only [List.length_take,List.length_singleton]; omega)) ?_
  rintro vo' _ ⟨h',ho',rfl⟩
  rw [← List.take_succ_eq_append_getElem hx] at ho'
  repeat (first|refine zB ?_|refine zE ?_|refine zK G G G ?_|refine L_add G G (by omega) (by omega) G G ?_)
  exact ⟨hx,_,(by repeat (first|exact zT _|refine zO G ?_)),vo',h',_,rfl,ho',yK.out⟩
 ·rw [List.take_of_length_le (by omega)] at ho
  repeat (first|refine zF ?_|refine yD ?_|refine zB ?_|refine zE ?_|refine zK G G G ?_|refine zM ?_|refine zI G ?_)
  exact ⟨[_],X+h,_,⟨rfl,trivial⟩,⟨h,ho,rfl⟩,yK.out⟩
theorem copyLk_spec (w0:World) (X:Hp) (v:Value) (l:List Lk) (hv:RdL w0 X v l) (hl:l.length≤1000000000) :
  Spec Tryz.prog w0 125 [v] X (fun r h'=>∃ h,OwL w0 0 l r h∧X+h=h'):=by
 obtain ⟨a,c,rfl⟩:=hv.shape
 refine zN Tryz.func125 G Tryz.ntmps125 Tryz.results125 G fun fr=>?_
 repeat (first|refine zF ?_|refine zR ?_|refine zB ?_|refine zE ?_|refine zK G G G ?_)
 refine hold_count l.length (fun k g L=>∃ (vo:Value) (h R:Hp),g=[(0,.slice a l.length c),(3,vo),(4,.int .i64 k)]∧OwL w0 0 (l.take k) vo h∧L=X+h+fr+R) _
  ⟨.slice none 0 0,0,_,rfl,OwL.nil _ _,by simp only [yB]; exact yK.out⟩ (by repeat (first|exact zT _|refine zO G ?_)) ?_
 rintro k g L hk ⟨vo,h,R,rfl,ho,rfl⟩
 repeat (first|refine zF ?_|refine zB ?_|refine zK G G G ?_|refine L_len G G G ?_)
 refine yG G G (pv_lss G G) (fun n1=>?_) (fun n1=>?_)
 ·have hx:k<l.length:=by omega
  obtain ⟨b2,o2,rfl,e,rfl,hat⟩:=hv.at hx
  repeat (first|refine zF ?_|refine zR ?_|refine zB ?_|refine zE ?_|refine zK G G G ?_|refine zP ?_|refine zJ G ?_|refine L_idx G G (by omega) G G ?_|refine L_atA G (by assumption) G G G G ?_|refine L_bs (vs:=[_]) (cells:=[_,_,_,_]) G G G G G G (fun _=>?_))
  refine L_eff G G (ev_appendL (X:=0) (ns:=[l[k]]) (h:=h) G G ho (rd_one G) (All2.one G) G G G G G (by simp only [List.length_take,List.length_singleton]; omega)) ?_
  rintro vo' _ ⟨h',ho',rfl⟩
  rw [← List.take_succ_eq_append_getElem hx] at ho'
  repeat (first|refine zB ?_|refine zE ?_|refine zK G G G ?_|refine L_add G G (by omega) (by omega) G G ?_)
  exact ⟨hx,_,(by repeat (first|exact zT _|refine zO G ?_)),vo',h',_,rfl,ho',yK.out⟩
 ·rw [List.take_of_length_le (by omega)] at ho
  repeat (first|refine zF ?_|refine yD ?_|refine zB ?_|refine zE ?_|refine zK G G G ?_|refine zM ?_|refine zI G ?_)
  exact ⟨[_],X+h,_,⟨rfl,trivial⟩,⟨h,ho,rfl⟩,yK.out⟩
theorem copyWr_spec (w0:World) (X:Hp) (v:Value) (l:List Wr) (hv:RdL w0 X v l) (hl:l.length≤1000000000) (hd:∀ x∈l,x.data.length≤1000000000) :
  Spec Tryz.prog w0 178 [v] X (fun r h'=>∃ D h,OwL w0 D l r h∧X+(D+h)=h'):=by
 obtain ⟨a,c,rfl⟩:=hv.shape
 refine zN Tryz.func178 G Tryz.ntmps178 Tryz.results178 G fun fr=>?_
 repeat (first|refine zF ?_|refine zR ?_|refine zB ?_|refine zE ?_|refine zK G G G ?_)
 refine hold_count l.length (fun k g L=>∃ (vo:Value) (E h R:Hp),g=[(0,.slice a l.length c),(3,vo),(4,.int .i64 k)]∧OwL w0 E (l.take k) vo h∧L=X+E+h+fr+R) _
  ⟨.slice none 0 0,0,0,_,rfl,OwL.nil _ _,by simp only [yB]; exact yK.out⟩ (by repeat (first|exact zT _|refine zO G ?_)) ?_
 rintro k g L hk ⟨vo,E,h,R,rfl,ho,rfl⟩
 repeat (first|refine zF ?_|refine zB ?_|refine zK G G G ?_|refine L_len G G G ?_)
 refine yG G G (pv_lss G G) (fun n1=>?_) (fun n1=>?_)
 ·have hx:k<l.length:=by omega
  have hdl:=hd _ (List.getElem_mem hx)
  obtain ⟨b2,o2,rfl,e,⟨a3,c3,rfl,hdat⟩,hat⟩:=hv.at hx
  repeat (first|refine zF ?_|refine zR ?_|refine zE ?_|refine zP ?_|refine zJ G ?_)
  refine yC [11,13,14] [0,1,2,3,4,5,6,7,8,9,10,11,12,13,14,15] (by kernel_rfl) G (by kernel_rfl) (by kernel_rfl) ?_
  repeat (first|refine yI G G G G G ?_|refine yE G G G G (yA G G G) ?_|refine W_idx G G G (by omega) G G G ?_|refine W_atf G G (by assumption) G G G G G ?_)
  refine W_call G G G G (zQ G G G) (copyB_spec w0 X _ _ hdat hdl) (Kept.all _) ?_
  rintro vc _ ⟨hc,hcl,rfl⟩
  obtain ⟨a4,c4,rfl⟩:=hcl.shape
  refine ⟨(by repeat (first|exact trivial|exact zG G (zS G)|exact zL G G G|exact zX G (by assumption) G|exact zH G (by assumption) G|exact zH G (by assumption) (by assumption)|refine ⟨?_,?_⟩)),?_⟩
  repeat (refine yE G G G G (pv_build (vs:=[_,_]) (cells:=[_,_]) G G) ?_)
  refine W_eff G G G G (ev_buildSlice (vs:=[_]) (cells:=[_,_]) G G G G) (Kept.all _) ?_
  rintro _ _ ⟨b5,rfl,rfl⟩
  refine ⟨(by repeat (first|exact trivial|exact zG G (zS G)|exact zL G G G|exact zX G (by assumption) G|exact zH G (by assumption) G|exact zH G (by assumption) (by assumption)|refine ⟨?_,?_⟩)),?_⟩
  have hnew:Rep.rd w0 (E+hc) l[k] _:=⟨a4,c4,rfl,hcl.rd0.mono (show E+hc=0+hc+E by rw [hzero_add]; ac_rfl)⟩
  refine W_eff G G G G (ev_appendL (X:=E+hc) (ns:=[l[k]]) (h:=h) G G (ho.mono G) (rd_one G) (All2.one hnew) G G G G G (by simp only [List.length_take,List.length_singleton]; omega)) (Kept.all _) ?_
  rintro vo' _ ⟨h',ho',rfl⟩
  refine ⟨(by repeat (first|exact trivial|exact zG G (zS G)|exact zL G G G|exact zX G (by assumption) G|exact zH G (by assumption) G|exact zH G (by assumption) (by assumption)|refine ⟨?_,?_⟩)),?_⟩
  rw [← List.take_succ_eq_append_getElem hx] at ho'
  repeat (first|refine yJ ?_|refine yI G G G G G ?_)
  repeat (first|refine zB ?_|refine zE ?_|refine zK G G G ?_|refine L_add G G (by omega) (by omega) G G ?_)
  exact ⟨hx,_,(by repeat (first|exact zT _|refine zO G ?_)),vo',E+hc,h',_,rfl,ho',yK.out⟩
 ·rw [List.take_of_length_le (by omega)] at ho
  repeat (first|refine zF ?_|refine yD ?_|refine zB ?_|refine zE ?_|refine zK G G G ?_|refine zM ?_|refine zI G ?_)
  exact ⟨[_],X+(E+h),_,⟨rfl,trivial⟩,⟨E,h,ho,rfl⟩,yK.out⟩
theorem copyBlk_spec (w0:World) (X:Hp) (v:Value) (l:List Blk) (hv:RdL w0 X v l) (hl:l.length≤1000000000) (hd:∀ x∈l,x.data.length≤1000000000) :
  Spec Tryz.prog w0 123 [v] X (fun r h'=>∃ D h,OwL w0 D l r h∧X+(D+h)=h'):=by
 obtain ⟨a,c,rfl⟩:=hv.shape
 refine zN Tryz.func123 G Tryz.ntmps123 Tryz.results123 G fun fr=>?_
 repeat (first|refine zF ?_|refine zR ?_|refine zB ?_|refine zE ?_|refine zK G G G ?_)
 refine hold_count l.length (fun k g L=>∃ (vo:Value) (E h R:Hp),g=[(0,.slice a l.length c),(3,vo),(4,.int .i64 k)]∧OwL w0 E (l.take k) vo h∧L=X+E+h+fr+R) _
  ⟨.slice none 0 0,0,0,_,rfl,OwL.nil _ _,by simp only [yB]; exact yK.out⟩ (by repeat (first|exact zT _|refine zO G ?_)) ?_
 rintro k g L hk ⟨vo,E,h,R,rfl,ho,rfl⟩
 repeat (first|refine zF ?_|refine zB ?_|refine zK G G G ?_|refine L_len G G G ?_)
 refine yG G G (pv_lss G G) (fun n1=>?_) (fun n1=>?_)
 ·have hx:k<l.length:=by omega
  have hdl:=hd _ (List.getElem_mem hx)
  obtain ⟨b2,o2,rfl,e,⟨a3,c3,rfl,hdat⟩,hat⟩:=hv.at hx
  repeat (first|refine zF ?_|refine zR ?_|refine zE ?_|refine zP ?_|refine zJ G ?_)
  refine yC [11,13,14] [0,1,2,3,4,5,6,7,8,9,10,11,12,13,14,15] (by kernel_rfl) G (by kernel_rfl) (by kernel_rfl) ?_
  repeat (first|refine yI G G G G G ?_|refine yE G G G G (yA G G G) ?_|refine W_idx G G G (by omega) G G G ?_|refine W_atf G G (by assumption) G G G G G ?_)
  refine W_call G G G G (zQ G G G) (copyB_spec w0 X _ _ hdat hdl) (Kept.all _) ?_
  rintro vc _ ⟨hc,hcl,rfl⟩
  obtain ⟨a4,c4,rfl⟩:=hcl.shape
  refine ⟨(by repeat (first|exact trivial|exact zG G (zS G)|exact zL G G G|exact zX G (by assumption) G|exact zH G (by assumption) G|exact zH G (by assumption) (by assumption)|refine ⟨?_,?_⟩)),?_⟩
  repeat (refine yE G G G G (pv_build (vs:=[_,_]) (cells:=[_,_]) G G) ?_)
  refine W_eff G G G G (ev_buildSlice (vs:=[_]) (cells:=[_,_]) G G G G) (Kept.all _) ?_
  rintro _ _ ⟨b5,rfl,rfl⟩
  refine ⟨(by repeat (first|exact trivial|exact zG G (zS G)|exact zL G G G|exact zX G (by assumption) G|exact zH G (by assumption) G|exact zH G (by assumption) (by assumption)|refine ⟨?_,?_⟩)),?_⟩
  have hnew:Rep.rd w0 (E+hc) l[k] _:=⟨a4,c4,rfl,hcl.rd0.mono (show E+hc=0+hc+E by rw [hzero_add]; ac_rfl)⟩
  refine W_eff G G G G (ev_appendL (X:=E+hc) (ns:=[l[k]]) (h:=h) G G (ho.mono G) (rd_one G) (All2.one hnew) G G G G G (by simp only [List.length_take,List.length_singleton]; omega)) (Kept.all _) ?_
  rintro vo' _ ⟨h',ho',rfl⟩
  refine ⟨(by repeat (first|exact trivial|exact zG G (zS G)|exact zL G G G|exact zX G (by assumption) G|exact zH G (by assumption) G|exact zH G (by assumption) (by assumption)|refine ⟨?_,?_⟩)),?_⟩
  rw [← List.take_succ_eq_append_getElem hx] at ho'
  repeat (first|refine yJ ?_|refine yI G G G G G ?_)
  repeat (first|refine zB ?_|refine zE ?_|refine zK G G G ?_|refine L_add G G (by omega) (by omega) G G ?_)
  exact ⟨hx,_,(by repeat (first|exact zT _|refine zO G ?_)),vo',E+hc,h',_,rfl,ho',yK.out⟩
 ·rw [List.take_of_length_le (by omega)] at ho
  repeat (first|refine zF ?_|refine yD ?_|refine zB ?_|refine zE ?_|refine zK G G G ?_|refine zM ?_|refine zI G ?_)
  exact ⟨[_],X+(E+h),_,⟨rfl,trivial⟩,⟨E,h,ho,rfl⟩,yK.out⟩
theorem copyKpt_spec (w0:World) (X:Hp) (v:Value) (l:List Kpt) (hv:RdL w0 X v l) (hl:l.length≤1000000000) (hd:∀ x∈l,x.data.length≤1000000000) :
  Spec Tryz.prog w0 124 [v] X (fun r h'=>∃ D h,OwL w0 D l r h∧X+(D+h)=h'):=by
 obtain ⟨a,c,rfl⟩:=hv.shape
 refine zN Tryz.func124 G Tryz.ntmps124 Tryz.results124 G fun fr=>?_
 repeat (first|refine zF ?_|refine zR ?_|refine zB ?_|refine zE ?_|refine zK G G G ?_)
 refine hold_count l.length (fun k g L=>∃ (vo:Value) (E h R:Hp),g=[(0,.slice a l.length c),(3,vo),(4,.int .i64 k)]∧OwL w0 E (l.take k) vo h∧L=X+E+h+fr+R) _
  ⟨.slice none 0 0,0,0,_,rfl,OwL.nil _ _,by simp only [yB]; exact yK.out⟩ (by repeat (first|exact zT _|refine zO G ?_)) ?_
 rintro k g L hk ⟨vo,E,h,R,rfl,ho,rfl⟩
 repeat (first|refine zF ?_|refine zB ?_|refine zK G G G ?_|refine L_len G G G ?_)
 refine yG G G (pv_lss G G) (fun n1=>?_) (fun n1=>?_)
 ·have hx:k<l.length:=by omega
  have hdl:=hd _ (List.getElem_mem hx)
  obtain ⟨b2,o2,rfl,e,⟨a3,c3,rfl,hdat⟩,hat⟩:=hv.at hx
  repeat (first|refine zF ?_|refine zR ?_|refine zE ?_|refine zP ?_|refine zJ G ?_)
  refine yC [16,18,19] [0,1,2,3,4,5,6,7,8,9,10,11,12,13,14,15,16,17,18,19,20] (by kernel_rfl) G (by kernel_rfl) (by kernel_rfl) ?_
  repeat (first|refine yI G G G G G ?_|refine yE G G G G (yA G G G) ?_|refine W_idx G G G (by omega) G G G ?_|refine W_atf G G (by assumption) G G G G G ?_)
  refine W_call G G G G (zQ G G G) (copyB_spec w0 X _ _ hdat hdl) (Kept.all _) ?_
  rintro vc _ ⟨hc,hcl,rfl⟩
  obtain ⟨a4,c4,rfl⟩:=hcl.shape
  refine ⟨(by repeat (first|exact trivial|exact zG G (zS G)|exact zL G G G|exact zX G (by assumption) G|exact zH G (by assumption) G|exact zH G (by assumption) (by assumption)|refine ⟨?_,?_⟩)),?_⟩
  repeat (refine yE G G G G (pv_build (vs:=[_,_,_]) (cells:=[_,_,_]) G G) ?_)
  refine W_eff G G G G (ev_buildSlice (vs:=[_]) (cells:=[_,_,_]) G G G G) (Kept.all _) ?_
  rintro _ _ ⟨b5,rfl,rfl⟩
  refine ⟨(by repeat (first|exact trivial|exact zG G (zS G)|exact zL G G G|exact zX G (by assumption) G|exact zH G (by assumption) G|exact zH G (by assumption) (by assumption)|refine ⟨?_,?_⟩)),?_⟩
  have hnew:Rep.rd w0 (E+hc) l[k] _:=⟨a4,c4,rfl,hcl.rd0.mono (show E+hc=0+hc+E by rw [hzero_add]; ac_rfl)⟩
  refine W_eff G G G G (ev_appendL (X:=E+hc) (ns:=[l[k]]) (h:=h) G G (ho.mono G) (rd_one G) (All2.one hnew) G G G G G (by simp only [List.length_take,List.length_singleton]; omega)) (Kept.all _) ?_
  rintro vo' _ ⟨h',ho',rfl⟩
  refine ⟨(by repeat (first|exact trivial|exact zG G (zS G)|exact zL G G G|exact zX G (by assumption) G|exact zH G (by assumption) G|exact zH G (by assumption) (by assumption)|refine ⟨?_,?_⟩)),?_⟩
  rw [← List.take_succ_eq_append_getElem hx] at ho'
  repeat (first|refine yJ ?_|refine yI G G G G G ?_)
  repeat (first|refine zB ?_|refine zE ?_|refine zK G G G ?_|refine L_add G G (by omega) (by omega) G G ?_)
  exact ⟨hx,_,(by repeat (first|exact zT _|refine zO G ?_)),vo',E+hc,h',_,rfl,ho',yK.out⟩
 ·rw [List.take_of_length_le (by omega)] at ho
  repeat (first|refine zF ?_|refine yD ?_|refine zB ?_|refine zE ?_|refine zK G G G ?_|refine zM ?_|refine zI G ?_)
  exact ⟨[_],X+(E+h),_,⟨rfl,trivial⟩,⟨E,h,ho,rfl⟩,yK.out⟩
theorem copySes_spec (w0:World) (X:Hp) (v:Value) (l:List Ses) (hv:RdL w0 X v l) (hl:l.length≤1000000000) (hd:∀ x∈l,x.res.data.length≤1000000000) :
  Spec Tryz.prog w0 129 [v] X (fun r h'=>∃ D h,OwL w0 D l r h∧X+(D+h)=h'):=by
 obtain ⟨a,c,rfl⟩:=hv.shape
 refine zN Tryz.func129 G Tryz.ntmps129 Tryz.results129 G fun fr=>?_
 repeat (first|refine zF ?_|refine zR ?_|refine zB ?_|refine zE ?_|refine zK G G G ?_)
 refine hold_count l.length (fun k g L=>∃ (vo:Value) (E h R:Hp),g=[(0,.slice a l.length c),(3,vo),(4,.int .i64 k)]∧OwL w0 E (l.take k) vo h∧L=X+E+h+fr+R) _
  ⟨.slice none 0 0,0,0,_,rfl,OwL.nil _ _,by simp only [yB]; exact yK.out⟩ (by repeat (first|exact zT _|refine zO G ?_)) ?_
 rintro k g L hk ⟨vo,E,h,R,rfl,ho,rfl⟩
 repeat (first|refine zF ?_|refine zB ?_|refine zK G G G ?_|refine L_len G G G ?_)
 refine yG G G (pv_lss G G) (fun n1=>?_) (fun n1=>?_)
 ·have hx:k<l.length:=by omega
  have hdl:=hd _ (List.getElem_mem hx)
  obtain ⟨b2,o2,rfl,e,⟨a3,c3,rfl,hdat⟩,hat⟩:=hv.at hx
  have hat2:At w0 X b2 (o2+k*4+2) [.int .i64 l[k].res.code,.slice a3 l[k].res.data.length c3]:=fun j u hu=>by have:=hat (2+j) u (by rw [Nat.add_comm]; exact hu); rwa [← Nat.add_assoc] at this
  repeat (first|refine zF ?_|refine zR ?_|refine zE ?_|refine zP ?_|refine zJ G ?_)
  refine yC [23,26,27] [0,1,2,3,4,5,6,7,8,9,10,11,12,13,14,15,16,17,18,19,20,21,22,23,24,25,26,27,28] (by kernel_rfl) G (by kernel_rfl) (by kernel_rfl) ?_
  repeat (first|refine yI G G G G G ?_|refine yE G G G G (yA G G G) ?_|refine W_idx G G G (by omega) G G G ?_|refine W_atf G G (by assumption) G G G G G ?_)
  refine W_call G G G G (zQ G G G) (copyB_spec w0 X _ _ hdat hdl) (Kept.all _) ?_
  rintro vc _ ⟨hc,hcl,rfl⟩
  obtain ⟨a4,c4,rfl⟩:=hcl.shape
  refine ⟨(by repeat (first|exact trivial|exact zG G (zS G)|exact zL G G G|exact zX G (by assumption) G|exact zH G (by assumption) G|exact zH G (by assumption) (by assumption)|refine ⟨?_,?_⟩)),?_⟩
  repeat (first|refine yE G G G G (pv_build (vs:=[_,_]) (cells:=[_,_]) G G) ?_|refine yE G G G G (pv_build (vs:=[_,_,_]) (cells:=[_,_,_,_]) G G) ?_)
  refine W_eff G G G G (ev_buildSlice (vs:=[_]) (cells:=[_,_,_,_]) G G G G) (Kept.all _) ?_
  rintro _ _ ⟨b5,rfl,rfl⟩
  refine ⟨(by repeat (first|exact trivial|exact zG G (zS G)|exact zL G G G|exact zX G (by assumption) G|exact zH G (by assumption) G|exact zH G (by assumption) (by assumption)|refine ⟨?_,?_⟩)),?_⟩
  have hnew:Rep.rd w0 (E+hc) l[k] _:=⟨a4,c4,rfl,hcl.rd0.mono (show E+hc=0+hc+E by rw [hzero_add]; ac_rfl)⟩
  refine W_eff G G G G (ev_appendL (X:=E+hc) (ns:=[l[k]]) (h:=h) G G (ho.mono G) (rd_one G) (All2.one hnew) G G G G G (by simp only [List.length_take,List.length_singleton]; omega)) (Kept.all _) ?_
  rintro vo' _ ⟨h',ho',rfl⟩
  refine ⟨(by repeat (first|exact trivial|exact zG G (zS G)|exact zL G G G|exact zX G (by assumption) G|exact zH G (by assumption) G|exact zH G (by assumption) (by assumption)|refine ⟨?_,?_⟩)),?_⟩
  rw [← List.take_succ_eq_append_getElem hx] at ho'
  repeat (first|refine yJ ?_|refine yI G G G G G ?_)
  repeat (first|refine zB ?_|refine zE ?_|refine zK G G G ?_|refine L_add G G (by omega) (by omega) G G ?_)
  exact ⟨hx,_,(by repeat (first|exact zT _|refine zO G ?_)),vo',E+hc,h',_,rfl,ho',yK.out⟩
 ·rw [List.take_of_length_le (by omega)] at ho
  repeat (first|refine zF ?_|refine yD ?_|refine zB ?_|refine zE ?_|refine zK G G G ?_|refine zM ?_|refine zI G ?_)
  exact ⟨[_],X+(E+h),_,⟨rfl,trivial⟩,⟨E,h,ho,rfl⟩,yK.out⟩
theorem copyOut_spec (w0:World) (X:Hp) (v:Value) (l:List Outp) (hv:RdL w0 X v l) (hl:l.length≤1000000000) (hd:∀ x∈l,x.data.length≤1000000000) :
  Spec Tryz.prog w0 128 [v] X (fun r h'=>∃ D h,OwL w0 D l r h∧X+(D+h)=h'):=by
 obtain ⟨a,c,rfl⟩:=hv.shape
 refine zN Tryz.func128 G Tryz.ntmps128 Tryz.results128 G fun fr=>?_
 repeat (first|refine zF ?_|refine zR ?_|refine zB ?_|refine zE ?_|refine zK G G G ?_)
 refine hold_count l.length (fun k g L=>∃ (vo:Value) (E h R:Hp),g=[(0,.slice a l.length c),(3,vo),(4,.int .i64 k)]∧OwL w0 E (l.take k) vo h∧L=X+E+h+fr+R) _
  ⟨.slice none 0 0,0,0,_,rfl,OwL.nil _ _,by simp only [yB]; exact yK.out⟩ (by repeat (first|exact zT _|refine zO G ?_)) ?_
 rintro k g L hk ⟨vo,E,h,R,rfl,ho,rfl⟩
 repeat (first|refine zF ?_|refine zB ?_|refine zK G G G ?_|refine L_len G G G ?_)
 refine yG G G (pv_lss G G) (fun n1=>?_) (fun n1=>?_)
 ·have hx:k<l.length:=by omega
  have hdl:=hd _ (List.getElem_mem hx)
  obtain ⟨b2,o2,rfl,e,⟨a3,c3,rfl,hdat⟩,hat⟩:=hv.at hx
  repeat (first|refine zF ?_|refine zR ?_|refine zB ?_|refine zE ?_|refine zK G G G ?_|refine zZ G G G G G ?_|refine L_ld G G G G G ?_|refine zP ?_|refine zJ G ?_|refine L_idx G G (by omega) G G ?_|refine L_atA G (by assumption) G G G G ?_|refine L_stA G (vs:=[_,_,_,_]) G G G G (c':=[_,_,_,_]) G G ?_|refine L_alloc (c:=[_,_,_,_]) G G G (fun _=>?_))
  refine zY G G (zQ G G G) (copyB_spec w0 X _ _ hdat hdl) ?_
  rintro vc _ ⟨hc,hcl,rfl⟩
  obtain ⟨a4,c4,rfl⟩:=hcl.shape
  repeat (first|refine zB ?_|refine zE ?_|refine zK G G G ?_|refine zZ G G G G G ?_|refine L_st G G G (c':=[_,_,_,_]) G G G G ?_|refine L_ldA G (vs:=[_,_,_,_]) G G G G G ?_|refine L_bs (vs:=[_]) (cells:=[_,_,_,_]) G G G G G G (fun _=>?_))
  have hnew:Rep.rd w0 (E+hc) l[k] [.int .i64 l[k].epoch,.int .i64 l[k].lo,.int .i64 l[k].hi,.slice a4 l[k].data.length c4]:=⟨a4,c4,rfl,hcl.rd0.mono (show E+hc=0+hc+E by rw [hzero_add]; ac_rfl)⟩
  refine L_eff G G (ev_appendL (X:=E+hc) (ns:=[l[k]]) (h:=h) G G (ho.mono G) (rd_one G) (All2.one hnew) G G G G G (by simp only [List.length_take,List.length_singleton]; omega)) ?_
  rintro vo' _ ⟨h',ho',rfl⟩
  rw [← List.take_succ_eq_append_getElem hx] at ho'
  repeat (first|refine zB ?_|refine zE ?_|refine zK G G G ?_|refine L_add G G (by omega) (by omega) G G ?_)
  exact ⟨hx,_,(by repeat (first|exact zT _|refine zO G ?_)),vo',E+hc,h',_,rfl,ho',yK.out⟩
 ·rw [List.take_of_length_le (by omega)] at ho
  repeat (first|refine zF ?_|refine yD ?_|refine zB ?_|refine zE ?_|refine zK G G G ?_|refine zM ?_|refine zI G ?_)
  exact ⟨[_],X+(E+h),_,⟨rfl,trivial⟩,⟨E,h,ho,rfl⟩,yK.out⟩
theorem copyPrp_spec (w0:World) (X:Hp) (v:Value) (l:List Prp) (hv:RdL w0 X v l) (hl:l.length≤1000000000) (hd:∀ x∈l,x.parts.length≤1000000000∧x.writes.length≤1000000000∧∀ w∈x.writes,w.data.length≤1000000000) :
  Spec Tryz.prog w0 126 [v] X (fun r h'=>∃ D h,OwL w0 D l r h∧X+(D+h)=h'):=by
 obtain ⟨a,c,rfl⟩:=hv.shape
 refine zN Tryz.func126 G Tryz.ntmps126 Tryz.results126 G fun fr=>?_
 repeat (first|refine zF ?_|refine zR ?_|refine zB ?_|refine zE ?_|refine zK G G G ?_)
 refine hold_count l.length (fun k g L=>∃ (vo:Value) (E h R:Hp),g=[(0,.slice a l.length c),(3,vo),(4,.int .i64 k)]∧OwL w0 E (l.take k) vo h∧L=X+E+h+fr+R) _
  ⟨.slice none 0 0,0,0,_,rfl,OwL.nil _ _,by simp only [yB]; exact yK.out⟩ (by repeat (first|exact zT _|refine zO G ?_)) ?_
 rintro k g L hk ⟨vo,E,h,R,rfl,ho,rfl⟩
 repeat (first|refine zF ?_|refine zB ?_|refine zK G G G ?_|refine L_len G G G ?_)
 refine yG G G (pv_lss G G) (fun n1=>?_) (fun n1=>?_)
 ·have hx:k<l.length:=by omega
  obtain ⟨hd1,hd2,hd3⟩:=hd _ (List.getElem_mem hx)
  obtain ⟨b2,o2,rfl,e,⟨a3,c3,a4,c4,rfl,hp,hw⟩,hat⟩:=hv.at hx
  repeat (first|refine zF ?_|refine zR ?_|refine zB ?_|refine zE ?_|refine zK G G G ?_|refine zZ G G G G G ?_|refine L_ld G G G G G ?_|refine zP ?_|refine zJ G ?_|refine L_idx G G (by omega) G G ?_|refine L_atA G (by assumption) G G G G ?_|refine L_stA G (vs:=[_,_,_,_,_,_,_]) G G G G (c':=[_,_,_,_,_,_,_]) G G ?_|refine L_alloc (c:=[_,_,_,_,_,_,_]) G G G (fun _=>?_))
  refine zY G G (zQ G G G) (copyI_spec w0 X _ _ hp hd1) ?_
  rintro vc _ ⟨hc,hcl,rfl⟩
  obtain ⟨a5,c5,rfl⟩:=hcl.shape
  repeat (first|refine zF ?_|refine zB ?_|refine zE ?_|refine zZ G G G G G ?_|refine L_ld G G G G G ?_|refine L_st G G G (c':=[_,_,_,_,_,_,_]) G G G G ?_)
  refine zY G G (zQ G G G) (copyWr_spec w0 X _ _ hw hd2 hd3) ?_
  rintro vw _ ⟨D2,hc2,hcl2,rfl⟩
  obtain ⟨a6,c6,rfl⟩:=hcl2.shape
  repeat (first|refine zB ?_|refine zE ?_|refine zK G G G ?_|refine zZ G G G G G ?_|refine L_st G G G (c':=[_,_,_,_,_,_,_]) G G G G ?_|refine L_ldA G (vs:=[_,_,_,_,_,_,_]) G G G G G ?_|refine L_bs (vs:=[_]) (cells:=[_,_,_,_,_,_,_]) G G G G G G (fun _=>?_))
  have hnew:Rep.rd w0 (E+(hc+(D2+hc2))) l[k] [.int .i64 l[k].txn,.int .i64 l[k].age,.int .i64 l[k].snap,.int .i64 l[k].lo,.int .i64 l[k].hi,.slice a5 l[k].parts.length c5,.slice a6 l[k].writes.length c6] :=
   ⟨a5,c5,a6,c6,rfl,hcl.rd0.mono (show _=0+hc+(E+(D2+hc2)) by rw [hzero_add]; ac_rfl),hcl2.rd0.mono (show _=D2+hc2+(E+hc) by ac_rfl)⟩
  refine L_eff G G (ev_appendL (X:=E+(hc+(D2+hc2))) (ns:=[l[k]]) (h:=h) G G (ho.mono G) (rd_one G) (All2.one hnew) G G G G G (by simp only [List.length_take,List.length_singleton]; omega)) ?_
  rintro vo' _ ⟨h',ho',rfl⟩
  rw [← List.take_succ_eq_append_getElem hx] at ho'
  repeat (first|refine zB ?_|refine zE ?_|refine zK G G G ?_|refine L_add G G (by omega) (by omega) G G ?_)
  exact ⟨hx,_,(by repeat (first|exact zT _|refine zO G ?_)),vo',E+(hc+(D2+hc2)),h',_,rfl,ho',yK.out⟩
 ·rw [List.take_of_length_le (by omega)] at ho
  repeat (first|refine zF ?_|refine yD ?_|refine zB ?_|refine zE ?_|refine zK G G G ?_|refine zM ?_|refine zI G ?_)
  exact ⟨[_],X+(E+h),_,⟨rfl,trivial⟩,⟨E,h,ho,rfl⟩,yK.out⟩
theorem copyShd_spec (w0:World) (X:Hp) (s:Shd) (e:List Value) (hs:RdShd w0 X s e) (hz:SizeS s) :
  Spec Tryz.prog w0 38 [.agg e.toArray] X (fun r h'=>∃ e' D,r=.agg e'.toArray∧RdShd w0 D s e'∧X+D=h'):=by
 obtain ⟨p1,q1,p2,q2,p3,q3,p4,q4,p5,q5,p6,q6,p7,q7,rfl,r1,r2,r3,r4,r5,r6,r7⟩:=id hs
 refine zN Tryz.func38 G Tryz.ntmps38 Tryz.results38 G fun fr=>?_
 repeat (first|refine zF ?_|refine zB ?_|refine zE ?_|refine L_box G (c:=[_,_,_,_,_,_,_,_,_,_]) G G G (fun _=>?_)|refine L_alloc (c:=[_,_,_,_,_,_,_,_,_,_]) G G G (fun _=>?_))
 refine yC [8,11,14,17,20,23,26,28] [0,1,2,3,4,5,6,7,9,10,12,13,15,16,18,19,21,22,24,25,8,11,14,17,20,23,26,27,28] (by kernel_rfl) G (by kernel_rfl) (by kernel_rfl) ?_
 repeat (first|refine yE G G G G (yA G G G) ?_|refine W_load G G G G (yF G) (zG G (zS G)) ?_)
 refine W_call G G G G (zQ G G G) (copyBlk_spec w0 X _ s.blocks r1 hz.bl.1 hz.bl.2) (Kept.all _) ?_
 rintro v1 _ ⟨D1,h1,o1,rfl⟩
 obtain ⟨u1,w1,rfl⟩:=o1.shape
 refine ⟨(by repeat (first|exact trivial|exact zG G (zS G)|exact zL G G G|exact zX G (by assumption) G|exact zH G (by assumption) G|exact zH G (by assumption) (by assumption)|refine ⟨?_,?_⟩)),?_⟩
 skip
 refine W_call G G G G (zQ G G G) (copyKpt_spec w0 X _ s.kept r2 hz.kp.1 hz.kp.2) (Kept.all _) ?_
 rintro v2 _ ⟨D2,h2,o2,rfl⟩
 obtain ⟨u2,w2,rfl⟩:=o2.shape
 refine ⟨(by repeat (first|exact trivial|exact zG G (zS G)|exact zL G G G|exact zX G (by assumption) G|exact zH G (by assumption) G|exact zH G (by assumption) (by assumption)|refine ⟨?_,?_⟩)),?_⟩
 skip
 refine W_call G G G G (zQ G G G) (copyLk_spec w0 X _ s.locks r3 hz.lk) (Kept.all _) ?_
 rintro v3 _ ⟨h3,o3,rfl⟩
 obtain ⟨u3,w3,rfl⟩:=o3.shape
 refine ⟨(by repeat (first|exact trivial|exact zG G (zS G)|exact zL G G G|exact zX G (by assumption) G|exact zH G (by assumption) G|exact zH G (by assumption) (by assumption)|refine ⟨?_,?_⟩)),?_⟩
 skip
 refine W_call G G G G (zQ G G G) (copyPrp_spec w0 X _ s.preps r4 hz.pr.1 hz.pr.2) (Kept.all _) ?_
 rintro v4 _ ⟨D4,h4,o4,rfl⟩
 obtain ⟨u4,w4,rfl⟩:=o4.shape
 refine ⟨(by repeat (first|exact trivial|exact zG G (zS G)|exact zL G G G|exact zX G (by assumption) G|exact zH G (by assumption) G|exact zH G (by assumption) (by assumption)|refine ⟨?_,?_⟩)),?_⟩
 skip
 refine W_call G G G G (zQ G G G) (copyI_spec w0 X _ s.dead r5 hz.dd) (Kept.all _) ?_
 rintro v5 _ ⟨h5,o5,rfl⟩
 obtain ⟨u5,w5,rfl⟩:=o5.shape
 refine ⟨(by repeat (first|exact trivial|exact zG G (zS G)|exact zL G G G|exact zX G (by assumption) G|exact zH G (by assumption) G|exact zH G (by assumption) (by assumption)|refine ⟨?_,?_⟩)),?_⟩
 skip
 refine W_call G G G G (zQ G G G) (copyOut_spec w0 X _ s.outs r6 hz.ou.1 hz.ou.2) (Kept.all _) ?_
 rintro v6 _ ⟨D6,h6,o6,rfl⟩
 obtain ⟨u6,w6,rfl⟩:=o6.shape
 refine ⟨(by repeat (first|exact trivial|exact zG G (zS G)|exact zL G G G|exact zX G (by assumption) G|exact zH G (by assumption) G|exact zH G (by assumption) (by assumption)|refine ⟨?_,?_⟩)),?_⟩
 skip
 refine W_call G G G G (zQ G G G) (copySes_spec w0 X _ s.sess r7 hz.se.1 hz.se.2) (Kept.all _) ?_
 rintro v7 _ ⟨D7,h7,o7,rfl⟩
 obtain ⟨u7,w7,rfl⟩:=o7.shape
 refine ⟨(by repeat (first|exact trivial|exact zG G (zS G)|exact zL G G G|exact zX G (by assumption) G|exact zH G (by assumption) G|exact zH G (by assumption) (by assumption)|refine ⟨?_,?_⟩)),?_⟩
 repeat (refine yE G G G G (pv_build (vs:=[_,_,_,_,_,_,_,_,_,_]) (cells:=[_,_,_,_,_,_,_,_,_,_]) G G) ?_)
 refine W_eff G G G G (ev_storeA (vs:=[_,_,_,_,_,_,_,_,_,_]) G G G G (c:=[_,_,_,_,_,_,_,_,_,_]) (Nat.le_of_ble_eq_true G) (c':=[_,_,_,_,_,_,_,_,_,_]) G) (Kept.all _) ?_
 rintro _ _ rfl
 refine ⟨(by repeat (first|exact trivial|exact zG G (zS G)|exact zL G G G|exact zX G (by assumption) G|exact zH G (by assumption) G|exact zH G (by assumption) (by assumption)|refine ⟨?_,?_⟩)),?_⟩
 repeat (refine yJ ?_)
 repeat (refine zM ?_)
 exact ⟨[_],X+((D1+h1)+(D2+h2)+h3+(D4+h4)+h5+(D6+h6)+(D7+h7)),_,⟨⟨_,rfl,zL G G G⟩,trivial⟩,⟨cellsS s (.slice u1 s.blocks.length w1) (.slice u2 s.kept.length w2) (.slice u3 s.locks.length w3) (.slice u4 s.preps.length w4) (.slice u5 s.dead.length w5) (.slice u6 s.outs.length w6) (.slice u7 s.sess.length w7),(D1+h1)+(D2+h2)+h3+(D4+h4)+h5+(D6+h6)+(D7+h7),rfl,⟨u1,w1,u2,w2,u3,w3,u4,w4,u5,w5,u6,w6,u7,w7,rfl,o1.rd0.mono (show _=D1+h1+((D2+h2)+h3+(D4+h4)+h5+(D6+h6)+(D7+h7)) by ac_rfl),o2.rd0.mono (show _=D2+h2+((D1+h1)+h3+(D4+h4)+h5+(D6+h6)+(D7+h7)) by ac_rfl),o3.rd0.mono (show _=0+h3+((D1+h1)+(D2+h2)+(D4+h4)+h5+(D6+h6)+(D7+h7)) by rw [hzero_add]; ac_rfl),o4.rd0.mono (show _=D4+h4+((D1+h1)+(D2+h2)+h3+h5+(D6+h6)+(D7+h7)) by ac_rfl),o5.rd0.mono (show _=0+h5+((D1+h1)+(D2+h2)+h3+(D4+h4)+(D6+h6)+(D7+h7)) by rw [hzero_add]; ac_rfl),o6.rd0.mono (show _=D6+h6+((D1+h1)+(D2+h2)+h3+(D4+h4)+h5+(D7+h7)) by ac_rfl),o7.rd0.mono (show _=D7+h7+((D1+h1)+(D2+h2)+h3+(D4+h4)+h5+(D6+h6)) by ac_rfl)⟩,rfl⟩,yK.out⟩
def encU (l:List Int):List (List Value):=l.map fun n=>[.int .u8 n]
theorem encU_length (l:List Int):(encU l).length=l.length:=List.length_map _
theorem encU_at {l:List Int} {k:Nat} (h:k<l.length):(encU l)[k]?=some [.int .u8 (l.getD k 0)]:=by simp [encU,h,List.getD]
theorem encU_set (l:List Int) (i:Nat) (n:Int):(encU l).set i [.int .u8 n]=encU (l.set i n):=by simp [encU,List.map_set]
theorem encU_len1 (l:List Int):∀ x∈encU l,x.length=1:=by
 intro x hx
 obtain ⟨n,_,rfl⟩:=List.mem_map.1 hx
 rfl
theorem spoilB_spec (w0:World) (X:Hp) (v:Value) (xs:List Bt) (h:Hp) (hv:OwL w0 X xs v h) (hl:xs.length≤1000000000000):Spec Tryz.prog w0 17 [v] h (fun r h'=>True):=by
 obtain ⟨es,hrow,hes⟩:=hv
 rw [rdB_enc] at hes
 subst hes
 have e1:xs.map cellB=encU (xs.map fun b=>(b.val:Int)):=by unfold encU; rw [List.map_map]; rfl
 rw [e1] at hrow
 have hbnd:(xs.map fun b=>(b.val:Int)).length≤1000000000000:=by rw [List.length_map]; exact hl
 generalize (xs.map fun b=>(b.val:Int))=ys0 at hrow hbnd
 by_cases hne:ys0=[]
 ·subst hne
  obtain ⟨a,c,rfl⟩:=hrow.shape
  refine zN Tryz.func17 G Tryz.ntmps17 Tryz.results17 G fun fr=>?_
  repeat (first|refine zF ?_|refine zR ?_|refine zB ?_|refine zE ?_|refine zK G G G ?_)
  refine hold_loop (fun m g L=>g=[(0,.slice a (encU []).length c),(2,.int .i64 0)]∧L=h+fr) 0 _ ⟨rfl,rfl⟩ (by repeat (first|exact zT _|refine zO G ?_)) ?_
  rintro m g L ⟨rfl,rfl⟩
  repeat (first|refine zF ?_|refine zB ?_|refine zK G G G ?_|refine L_len G G G ?_)
  refine L_no G G (pv_lss G G) (by simp [encU]) ?_
  repeat (first|refine yD ?_|refine zE ?_|refine zI G ?_)
  exact ⟨[],h,0,trivial,trivial,(yB _).symm⟩
 ·obtain ⟨b,cap,spare,rfl,rfl,h1,h2,h3,h4⟩:=hrow.nonempty (by intro e; rw [← List.length_eq_zero_iff,encU_length] at e; exact hne (List.eq_nil_of_length_eq_zero e))
  rw [encU_length] at h2 ⊢
  refine zN Tryz.func17 G Tryz.ntmps17 Tryz.results17 G fun fr=>?_
  repeat (first|refine zF ?_|refine zR ?_|refine zB ?_|refine zE ?_|refine zK G G G ?_)
  refine hold_loop (fun m g L=>∃ (k:Nat) (ys:List Int),ys.length=ys0.length∧k≤ys0.length∧m=ys0.length - k∧g=[(0,.slice (some ⟨b,0,none⟩) ys0.length cap),(2,.int .i64 k)]∧L=pt b (.cells ((encU ys).flatten++spare).toArray 5 (0,0))+fr) _ _
   ⟨0,ys0,rfl,by omega,rfl,rfl,rfl⟩ (by repeat (first|exact zT _|refine zO G ?_)) ?_
  rintro m g L ⟨k,ys,hy,hk,rfl,rfl,rfl⟩
  repeat (first|refine zF ?_|refine zB ?_|refine zK G G G ?_|refine L_len G G G ?_)
  refine yG G G (pv_lss G G) (fun h3=>?_) (fun h3=>?_)
  ·have hx:k<ys.length:=by omega
   have hx2:k<ys0.length:=by omega
   repeat (first|refine zF ?_|refine zR ?_|refine zB ?_|refine zE ?_|refine zK G G G ?_|refine zP ?_|refine zJ G ?_|refine L_idx G G (by omega) G G ?_)
   refine L_ld G (row_get0 (j:=0) (encU_len1 ys) spare (encU_at hx) G) G G G ?_
   refine yH G G (pv_xor G G) ?_
   refine yH G G (pv_indexAddr G G hx2) ?_
   refine L_st G G (row_get0 (j:=0) (encU_len1 ys) spare (encU_at hx) G) (row_set0 (j:=0) (encU_len1 ys) spare _ (encU_at hx) (by omega)) G G G ?_
   repeat (first|refine zB ?_|refine zE ?_|refine zK G G G ?_|refine L_add G G (by omega) (by omega) G G ?_)
   refine ⟨ys0.length - (k+1),_,by omega,(by repeat (first|exact zT _|refine zO G ?_)),k+1,_,?_,by omega,rfl,rfl,by rw [List.set_cons_zero,encU_set]⟩
   simp [hy]
  ·repeat (first|refine yD ?_|refine zE ?_|refine zI G ?_)
   exact ⟨[],_,0,trivial,trivial,(yB _).symm⟩
end Sl
end Go.Proofs.YtpkealohodeifaaGreat
namespace Go.Proofs.YtpkealohodeifaaGreat
open Go Go.RowKit
namespace Sl
set_option maxHeartbeats 16000000
set_option maxRecDepth 4000
set_option synthInstance.maxHeartbeats 400000
set_option synthInstance.maxSize 100000
attribute [local irreducible] Hold HoldL HoldW
def serveF (s:Shd) (o:Opn):Res :=
 if checkF o≠0 then ⟨checkF o,[]⟩
 else if o.kind≠4 then ⟨13,[]⟩
 else if o.epoch≠s.epoch∨¬ (s.lo≤o.block∧o.block<s.hi) then ⟨26,[]⟩
 else match keptK s.kept o.snap o.block with
  | some x=>⟨0,x.data⟩
  | none=>if s.preps.any (fun p=>decide (p.snap=o.snap∧o.block∈mineF s.locks p))=true then ⟨11,[]⟩ else ⟨23,[]⟩
section
variable {s:Shd} {o:Opn}
theorem sv_check (h:checkF o≠0):serveF s o=⟨checkF o,[]⟩:=by unfold serveF; rw [if_pos h]
variable (h0:¬ checkF o≠0)
include h0
theorem sv_kind (h:o.kind≠4):serveF s o=⟨13,[]⟩:=by unfold serveF; rw [if_neg h0,if_pos h]
variable (h1:¬ o.kind≠4)
include h1
theorem sv_out (h:o.epoch≠s.epoch∨¬ (s.lo≤o.block∧o.block<s.hi)):serveF s o=⟨26,[]⟩:=by unfold serveF; rw [if_neg h0,if_neg h1,if_pos h]
variable (h2:¬ (o.epoch≠s.epoch∨¬ (s.lo≤o.block∧o.block<s.hi)))
include h2
theorem sv_kept {x:Kpt} (h:keptK s.kept o.snap o.block=some x):serveF s o=⟨0,x.data⟩:=by unfold serveF; rw [if_neg h0,if_neg h1,if_neg h2,h]
variable (h3:keptK s.kept o.snap o.block=none)
include h3
theorem sv_busy (h:s.preps.any (fun p=>decide (p.snap=o.snap∧o.block∈mineF s.locks p))=true):serveF s o=⟨11,[]⟩:=by
 unfold serveF; rw [if_neg h0,if_neg h1,if_neg h2,h3]; exact if_pos h
theorem sv_snap (h:¬ s.preps.any (fun p=>decide (p.snap=o.snap∧o.block∈mineF s.locks p))=true):serveF s o=⟨23,[]⟩:=by
 unfold serveF; rw [if_neg h0,if_neg h1,if_neg h2,h3]; exact if_neg h
end
theorem serveF_len {s:Shd} {o:Opn} (hz:SizeS s):(serveF s o).data.length≤1000000000:=by
 by_cases h0:checkF o≠0
 ·rw [sv_check h0]; simp
 by_cases h1:o.kind≠4
 ·rw [sv_kind h0 h1]; simp
 by_cases h2:o.epoch≠s.epoch∨¬ (s.lo≤o.block∧o.block<s.hi)
 ·rw [sv_out h0 h1 h2]; simp
 cases h3:keptK s.kept o.snap o.block with
 | some x=>rw [sv_kept h0 h1 h2 h3]; exact hz.kp.2 x (List.mem_of_find?_eq_some h3)
 | none =>
  by_cases h4:s.preps.any (fun p=>decide (p.snap=o.snap∧o.block∈mineF s.locks p))=true
  ·rw [sv_busy h0 h1 h2 h3 h4]; simp
  ·rw [sv_snap h0 h1 h2 h3 h4]; simp
theorem serve1_spec (w0:World) (X Y:Hp) (p:Prp) (ep:List Value) (hp:Rep.rd w0 Y p ep) (b3 b5 bs:Nat) (oc:Opn) (u1 u2 u3 u4 lo hi ec vb vk vl vp vd vo vx:Value) (ls:List Lk) (hls:RdL w0 X vl ls) (hl:ls.length≤1000000000) :
  Spec Tryz.prog w0 130 [.agg ep.toArray,.pointer (some ⟨b3,0,none⟩),.pointer (some ⟨b5,0,none⟩)]
   (X+stC bs [lo,hi,ec,vb,vk,vl,vp,vd,vo,vx]+pt b3 (.cells (cellsO oc u1 u2 u3 u4).toArray 49 (0,0))+pt b5 (.cells [.pointer (some ⟨bs,0,none⟩)].toArray 140 (0,0)))
   (fun r h'=>r=.bool (decide (p.snap=oc.snap∧oc.block∈mineF ls p))∧X+stC bs [lo,hi,ec,vb,vk,vl,vp,vd,vo,vx]+pt b3 (.cells (cellsO oc u1 u2 u3 u4).toArray 49 (0,0))+pt b5 (.cells [.pointer (some ⟨bs,0,none⟩)].toArray 140 (0,0))=h'):=by
 have hml:=mineF_len ls p
 have hmine:=mine_spec w0 X bs lo hi ec vb vk vl vp vd vo vx ls p ep ⟨Y,hp⟩ hls hl
 obtain ⟨z1,w1,z2,w2,rfl,_,_⟩:=id hp
 refine zN Tryz.func130 G Tryz.ntmps130 Tryz.results130 G fun fr=>?_
 repeat (first|refine zF ?_|refine zB ?_|refine zE ?_|refine zK G G G ?_|refine L_box G (c:=[_,_,_,_,_,_,_]) G G G (fun _=>?_))
 refine yC [8,11] [0,1,2,3,4,5,6,7,9,10,8,11,12,13] (by kernel_rfl) G (by kernel_rfl) (by kernel_rfl) ?_
 repeat (first|refine yE G G G G (yA G G G) ?_|refine W_load G G G G (yF G) (zG G (zS G)) ?_)
 refine W_dec G G G G (pv_eql G G) (fun n1=>?_) (fun n1=>?_)
 ·repeat (first|refine yI G G G G G ?_|refine yE G G G G (yA G G G) ?_|refine W_load G G G G (yF G) (zG G (zS G)) ?_|refine W_load G G G G (yF G) (zL (vs:=[_,_,_,_,_,_,_]) G G G) ?_)
  refine W_call G G G G (zQ G G G) hmine (Kept.all _) ?_
  rintro vm _ ⟨hm,hom,rfl⟩
  have hrd:RdL w0 hm vm (mineF ls p):=hom.rd0.mono (show hm=0+hm+0 by rw [hzero_add,yB])
  obtain ⟨am,cm,rfl⟩:=hom.shape
  refine ⟨(by repeat (first|exact trivial|exact zG G (zS G)|exact zL G G G|exact zX G (by assumption) G|exact zH G (by assumption) G|exact zH G (by assumption) (by assumption)|refine ⟨?_,?_⟩)),?_⟩
  skip
  refine W_call G G G G (zQ G G G) (containsI_spec w0 hm _ (mineF ls p) oc.block (rdL_ints.1 hrd) (by omega)) (Kept.all _) ?_
  rintro _ _ ⟨rfl,rfl⟩
  refine ⟨(by repeat (first|exact trivial|exact zG G (zS G)|exact zL G G G|exact zX G (by assumption) G|exact zH G (by assumption) G|exact zH G (by assumption) (by assumption)|refine ⟨?_,?_⟩)),?_⟩
  repeat (first|refine yJ ?_|refine yI G G G G G ?_)
  repeat (refine zM ?_)
  exact ⟨[_],_,_,⟨rfl,trivial⟩,⟨congrArg Value.bool (decide_eq_decide.2 ⟨fun h=>⟨n1,h⟩,fun h=>h.2⟩),rfl⟩,yK.out⟩
 ·repeat (first|refine yJ ?_|refine yI G G G G G ?_|refine W_skip G G G G ?_|refine W_not G G G G ?_)
  repeat (refine zM ?_)
  exact ⟨[_],_,_,⟨rfl,trivial⟩,⟨bool_F (fun h=>n1 h.1),rfl⟩,yK.out⟩
theorem serve22_spec (w0:World) (X:Hp) (s:Shd) (es:List Value) (o:Opn) (eo:List Value) (hs:RdShd w0 X s es) (ho:Rep.rd w0 X o eo) (hz:SizeS s) (hok:OkK s.kept) (hno:NumsIn o) (hl:o.parts.length≤1000000000∧o.reads.length≤1000000000∧o.writes.length≤1000000000) :
  Spec Tryz.prog w0 39 [.agg es.toArray,.agg eo.toArray] X (fun r h'=>∃ h,OwR w0 (serveF s o) r h∧X+h=h'):=by
 have hchk:=check21_spec w0 X o eo ho hno hl
 obtain ⟨p1,q1,p2,q2,p3,q3,p4,q4,p5,q5,p6,q6,p7,q7,rfl,r1,r2,r3,r4,r5,r6,r7⟩:=id hs
 obtain ⟨x1,y1,x2,y2,x3,y3,x4,y4,rfl,_⟩:=id ho
 have hkp:=kept19_spec w0 X (.slice p2 s.kept.length q2) s.kept o.snap o.block r2 hok hz.kp.1
 refine zN Tryz.func39 G Tryz.ntmps39 Tryz.results39 G fun fr=>?_
 repeat (first|refine zF ?_|refine zB ?_|refine zE ?_|refine L_st G G G (c':=[_]) G G G G ?_|refine L_ldA G (vs:=[_,_,_,_,_,_,_,_,_,_]) G G G G G ?_|refine L_ldA G (vs:=[_,_,_,_,_,_,_,_,_,_,_,_,_,_,_,_,_]) G G G G G ?_|refine L_build (vs:=[_]) (cells:=[_,_,_,_,_,_,_,_,_,_]) G G G G ?_|refine L_box G (c:=[_,_,_,_,_,_,_,_,_,_]) G G G (fun _=>?_)|refine L_box G (c:=[_,_,_,_,_,_,_,_,_,_,_,_,_,_,_,_,_]) G G G (fun _=>?_)|refine L_alloc (c:=[_]) G G G (fun _=>?_)|refine L_alloc (c:=[_,_]) G G G (fun _=>?_))
 rename_i b2 b3 b4 bs b5
 refine zY G G (zQ G G G) hchk ?_
 rintro _ _ ⟨rfl,rfl⟩
 repeat (first|refine zF ?_|refine zB ?_|refine zE ?_|refine zK G G G ?_)
 refine yG G G (pv_neq G G) (fun n0=>?_) (fun n0=>?_)
 ·repeat (first|refine zF ?_|refine zB ?_|refine zE ?_|refine zK G G G ?_|refine zJ G ?_)
  refine zY G G (zQ G G G) (code22_spec w0 (checkF o)) ?_
  rintro _ _ ⟨rfl,rfl⟩
  repeat (first|refine zE ?_|refine zM ?_|refine L_stA G (vs:=[_,_]) G G G G (c':=[_,_]) G G ?_)
  exact ⟨[_],X+0,_,⟨⟨_,rfl,zL G G G⟩,trivial⟩,⟨0,by rw [sv_check n0]; exact OwR.code w0 _,rfl⟩,by simp only [yB]; exact yK.out⟩
 repeat (first|refine zF ?_|refine zB ?_|refine zE ?_|refine zZ G G G G G ?_|refine L_ld G G G G G ?_|refine zP ?_|refine zI G ?_)
 refine zY G G (zQ G G G) hkp ?_
 rintro _ _ ⟨vd,hd,rfl,hod,rfl⟩
 generalize hkk:keptK s.kept o.snap o.block=kq at *
 obtain ⟨ad,cd,rfl⟩:=hod.shape
 repeat (first|refine zF ?_|refine zR ?_|refine zB ?_|refine zE ?_|refine zK G G G ?_|refine zZ G G G G G ?_|refine L_ld G G G G G ?_|refine L_clo G G G ?_)
 refine yG G G (pv_neq G G) (fun n1=>?_) (fun n1=>?_)
 ·repeat (first|refine zF ?_|refine zB ?_|refine zE ?_|refine zK G G G ?_|refine zJ G ?_)
  refine zY G G (zQ G G G) (code22_spec w0 13) ?_
  rintro _ _ ⟨rfl,rfl⟩
  repeat (first|refine zE ?_|refine zM ?_|refine L_stA G (vs:=[_,_]) G G G G (c':=[_,_]) G G ?_)
  exact ⟨[_],X+0,_,⟨⟨_,rfl,zL G G G⟩,trivial⟩,⟨0,by rw [sv_kind n0 n1]; exact OwR.code w0 _,rfl⟩,by simp only [yB]; exact yK.out⟩
 repeat (first|refine zF ?_|refine zB ?_|refine zE ?_|refine zK G G G ?_|refine zZ G G G G G ?_|refine L_ld G G G G G ?_|refine zI G ?_)
 refine yG G G (pv_neq G G) (fun n2=>?_) (fun n2=>?_)
 ·repeat (first|refine zF ?_|refine zB ?_|refine zE ?_|refine zK G G G ?_|refine L_skip G G ?_|refine zJ G ?_)
  refine zY G G (zQ G G G) (code22_spec w0 26) ?_
  rintro _ _ ⟨rfl,rfl⟩
  repeat (first|refine zE ?_|refine zM ?_|refine L_stA G (vs:=[_,_]) G G G G (c':=[_,_]) G G ?_)
  exact ⟨[_],X+0,_,⟨⟨_,rfl,zL G G G⟩,trivial⟩,⟨0,by rw [sv_out n0 n1 (.inl n2)]; exact OwR.code w0 _,rfl⟩,by simp only [yB]; exact yK.out⟩
 repeat (first|refine zK G G G ?_|refine zZ G G G G G ?_|refine L_ld G G G G G ?_)
 refine L_callD G G (zQ G G G) (hasB_spec w0 bs (.int .i64 s.epoch) (.slice p1 s.blocks.length q1) (.slice p2 s.kept.length q2) (.slice p3 s.locks.length q3) (.slice p4 s.preps.length q4) (.slice p5 s.dead.length q5) (.slice p6 s.outs.length q6) (.slice p7 s.sess.length q7) s.lo s.hi o.block) (fun n3=>?_) (fun n3=>?_)
 rotate_left
 ·repeat (first|refine zF ?_|refine zB ?_|refine zE ?_|refine zK G G G ?_|refine zJ G ?_)
  refine zY G G (zQ G G G) (code22_spec w0 26) ?_
  rintro _ _ ⟨rfl,rfl⟩
  repeat (first|refine zE ?_|refine zM ?_|refine L_stA G (vs:=[_,_]) G G G G (c':=[_,_]) G G ?_)
  exact ⟨[_],X+0,_,⟨⟨_,rfl,zL G G G⟩,trivial⟩,⟨0,by rw [sv_out n0 n1 (.inr n3)]; exact OwR.code w0 _,rfl⟩,by simp only [yB]; exact yK.out⟩
 have n4:¬ (o.epoch≠s.epoch∨¬ (s.lo≤o.block∧o.block<s.hi)):=fun h=>h.elim n2 (fun h=>h n3)
 cases kq with
 | some x =>
  repeat (first|refine zF ?_|refine zB ?_|refine zE ?_|refine zK G G G ?_|refine zM ?_|refine zJ G ?_|refine zI G ?_|refine L_build (vs:=[_]) (cells:=[_,_]) G G G G ?_|refine L_stA G (vs:=[_,_]) G G G G (c':=[_,_]) G G ?_)
  exact ⟨[_],X+hd,_,⟨⟨_,rfl,zL G G G⟩,trivial⟩,⟨hd,by rw [sv_kept n0 n1 n4 hkk]; exact ⟨ad,cd,rfl,hod⟩,rfl⟩,yK.out⟩
 | none =>
  repeat (first|refine zF ?_|refine zB ?_|refine zE ?_|refine zK G G G ?_|refine zZ G G G G G ?_|refine L_ld G G G G G ?_|refine zI G ?_)
  refine zY G G (zQ G G G) (containsFuncPrp_spec w0 (X+stC bs (cellsS s (.slice p1 s.blocks.length q1) (.slice p2 s.kept.length q2) (.slice p3 s.locks.length q3) (.slice p4 s.preps.length q4) (.slice p5 s.dead.length q5) (.slice p6 s.outs.length q6) (.slice p7 s.sess.length q7))+pt b3 (.cells [.int .i64 o.kind,.int .i64 o.client,.int .i64 o.seq,.int .i64 o.txn,.int .i64 o.age,.int .i64 o.epoch,.int .i64 o.lo,.int .i64 o.hi,.int .i64 o.block,.int .i64 o.snap,.int .i64 o.value,.int .i64 o.src,.int .i64 o.dst,.slice x1 o.parts.length y1,.slice x2 o.reads.length y2,.slice x3 o.writes.length y3,.slice x4 o.data.length y4].toArray 49 (0,0))+pt b5 (.cells [.pointer (some ⟨bs,0,none⟩)].toArray 140 (0,0))) (.slice p4 s.preps.length q4) s.preps 130 [.pointer (some ⟨b3,0,none⟩),.pointer (some ⟨b5,0,none⟩)] (fun p=>decide (p.snap=o.snap∧o.block∈mineF s.locks p)) (r4.mono (show _=X+(stC bs (cellsS s (.slice p1 s.blocks.length q1) (.slice p2 s.kept.length q2) (.slice p3 s.locks.length q3) (.slice p4 s.preps.length q4) (.slice p5 s.dead.length q5) (.slice p6 s.outs.length q6) (.slice p7 s.sess.length q7))+pt b3 (.cells [.int .i64 o.kind,.int .i64 o.client,.int .i64 o.seq,.int .i64 o.txn,.int .i64 o.age,.int .i64 o.epoch,.int .i64 o.lo,.int .i64 o.hi,.int .i64 o.block,.int .i64 o.snap,.int .i64 o.value,.int .i64 o.src,.int .i64 o.dst,.slice x1 o.parts.length y1,.slice x2 o.reads.length y2,.slice x3 o.writes.length y3,.slice x4 o.data.length y4].toArray 49 (0,0))+pt b5 (.cells [.pointer (some ⟨bs,0,none⟩)].toArray 140 (0,0))) by ac_rfl)) hz.pr.1
   (fun Y p e hpm hpe=>serve1_spec w0 X Y p e hpe b3 b5 bs o _ _ _ _ _ _ _ _ _ _ _ _ _ _ s.locks r3 hz.lk)) ?_
  rintro _ _ ⟨rfl,rfl⟩
  by_cases n5:s.preps.any (fun p=>decide (p.snap=o.snap∧o.block∈mineF s.locks p))=true
  ·rw [n5]
   repeat (first|refine zF ?_|refine zB ?_|refine zE ?_|refine zK G G G ?_|refine zJ G ?_)
   refine zY G G (zQ G G G) (code22_spec w0 11) ?_
   rintro _ _ ⟨rfl,rfl⟩
   repeat (first|refine zE ?_|refine zM ?_|refine L_stA G (vs:=[_,_]) G G G G (c':=[_,_]) G G ?_)
   exact ⟨[_],X+0,_,⟨⟨_,rfl,zL G G G⟩,trivial⟩,⟨0,by rw [sv_busy n0 n1 n4 hkk n5]; exact OwR.code w0 _,rfl⟩,by simp only [yB]; exact yK.out⟩
  ·have n6:s.preps.any (fun p=>decide (p.snap=o.snap∧o.block∈mineF s.locks p))=false:=by simpa using n5
   rw [n6]
   repeat (first|refine zF ?_|refine zB ?_|refine zE ?_|refine zK G G G ?_|refine zP ?_|refine zI G ?_)
   refine zY G G (zQ G G G) (code22_spec w0 23) ?_
   rintro _ _ ⟨rfl,rfl⟩
   repeat (first|refine zE ?_|refine zM ?_|refine L_stA G (vs:=[_,_]) G G G G (c':=[_,_]) G G ?_)
   exact ⟨[_],X+0,_,⟨⟨_,rfl,zL G G G⟩,trivial⟩,⟨0,by rw [sv_snap n0 n1 n4 hkk n5]; exact OwR.code w0 _,rfl⟩,by simp only [yB]; exact yK.out⟩
theorem refHas_spec (w0:World) (X:Hp) (v:Value) (l:List Lk) (t b:Int) (wr:Bool) (hv:RdL w0 X v l) (hl:l.length≤1000000000) :
  Spec Tryz.prog w0 189 [v,.int .i64 t,.int .i64 b,.bool wr] X (fun r h'=>r=.bool (hasL l t b wr)∧X=h'):=by
 obtain ⟨a,c,rfl⟩:=hv.shape
 refine zN Tryz.func189 G Tryz.ntmps189 Tryz.results189 G fun fr=>?_
 repeat (first|refine zF ?_|refine zR ?_|refine zB ?_|refine zE ?_|refine zK G G G ?_)
 refine hold_count l.length (fun k g L=>∃ R:Hp,g=[(0,.slice a l.length c),(1,.int .i64 t),(2,.int .i64 b),(3,.bool wr),(9,.int .i64 k)]∧(∀ x∈l.take k,hasP t b wr x=false)∧L=X+fr+R) _ ⟨0,rfl,by simp,(yB _).symm⟩ (by repeat (first|exact zT _|refine zO G ?_)) ?_
 rintro k g L hk ⟨R,rfl,hpre,rfl⟩
 repeat (first|refine zF ?_|refine zB ?_|refine zK G G G ?_|refine L_len G G G ?_)
 refine yG G G (pv_lss G G) (fun n0=>?_) (fun n0=>?_)
 ·have hx:k<l.length:=by omega
  have hnext:hasP t b wr l[k]=false→∀ x∈l.take (k+1),hasP t b wr x=false:=all_take_succ hx hpre
  have hyes:hasP t b wr l[k]=true→hasL l t b wr=true:=fun h=>List.any_eq_true.2 ⟨_,List.getElem_mem hx,h⟩
  obtain ⟨b2,o2,rfl,e,he,hat⟩:=hv.at hx
  obtain rfl:e=[.int .i64 l[k].block,.int .i64 l[k].txn,.int .i64 l[k].age,.bool l[k].write]:=he
  generalize l[k]=y at *
  obtain ⟨yb,yt,ya,yw⟩:=y
  simp only at hat
  repeat (first|refine zF ?_|refine zR ?_|refine zB ?_|refine zE ?_|refine zK G G G ?_|refine zZ G G G G G ?_|refine zP ?_|refine zJ G ?_|refine L_idx G G (by omega) G G ?_|refine L_atf G (by assumption) G G G G ?_)
  refine yG G G (pv_eql G G) (fun n1=>?_) (fun n1=>?_)
  ·repeat (first|refine zK G G G ?_|refine zZ G G G G G ?_|refine L_idx G G (by omega) G G ?_|refine L_atf G (by assumption) G G G G ?_)
   refine yG G G (pv_eql G G) (fun n2=>?_) (fun n2=>?_)
   ·cases wr<;>cases yw
    ·repeat (first|refine zF ?_|refine zB ?_|refine zE ?_|refine zK G G G ?_|refine L_skip G G ?_|refine zM ?_|refine zJ G ?_)
     exact ⟨[_],X,_,⟨rfl,trivial⟩,⟨by rw [hyes (by simp [hasP,n1,n2])]; rfl,rfl⟩,yK.out⟩
    ·repeat (first|refine zF ?_|refine zB ?_|refine zE ?_|refine zK G G G ?_|refine L_skip G G ?_|refine zM ?_|refine zJ G ?_)
     exact ⟨[_],X,_,⟨rfl,trivial⟩,⟨by rw [hyes (by simp [hasP,n1,n2])]; rfl,rfl⟩,yK.out⟩
    ·repeat (first|refine zB ?_|refine zE ?_|refine zK G G G ?_|refine zZ G G G G G ?_|refine zP ?_|refine zI G ?_|refine L_add G G (by omega) (by omega) G G ?_|refine L_idx G G (by omega) G G ?_|refine L_atf G (by assumption) G G G G ?_)
     exact ⟨hx,_,(by repeat (first|exact zT _|refine zO G ?_)),_,rfl,hnext (by simp [hasP]),yK.out⟩
    ·repeat (first|refine zF ?_|refine zB ?_|refine zE ?_|refine zK G G G ?_|refine zZ G G G G G ?_|refine zM ?_|refine zJ G ?_|refine L_idx G G (by omega) G G ?_|refine L_atf G (by assumption) G G G G ?_)
     exact ⟨[_],X,_,⟨rfl,trivial⟩,⟨by rw [hyes (by simp [hasP,n1,n2])]; rfl,rfl⟩,yK.out⟩
   ·repeat (first|refine zB ?_|refine zE ?_|refine zK G G G ?_|refine L_skip G G ?_|refine zP ?_|refine zI G ?_|refine L_add G G (by omega) (by omega) G G ?_)
    exact ⟨hx,_,(by repeat (first|exact zT _|refine zO G ?_)),_,rfl,hnext (by simp [hasP,n2]),yK.out⟩
  ·repeat (first|refine zB ?_|refine zE ?_|refine zK G G G ?_|refine L_skip G G ?_|refine zP ?_|refine zI G ?_|refine L_add G G (by omega) (by omega) G G ?_)
   exact ⟨hx,_,(by repeat (first|exact zT _|refine zO G ?_)),_,rfl,hnext (by simp [hasP,n1]),yK.out⟩
 ·rw [List.take_of_length_le (by omega)] at hpre
  repeat (first|refine zF ?_|refine yD ?_|refine zB ?_|refine zE ?_|refine zK G G G ?_|refine zM ?_|refine zI G ?_)
  exact ⟨[_],X,_,⟨rfl,trivial⟩,⟨by rw [show hasL l t b wr=false from List.any_eq_false.2 (fun x hx=>by rw [hpre x hx]; simp)]; rfl,rfl⟩,yK.out⟩
theorem refMine_spec (w0:World) (X Y:Hp) (s:Shd) (es:List Value) (p:Prp) (ep:List Value) (hs:RdShd w0 X s es) (hp:Rep.rd w0 Y p ep) (hl:s.locks.length≤1000000000) :
  Spec Tryz.prog w0 139 [.agg es.toArray,.agg ep.toArray] X (fun r h'=>∃ h,OwL w0 0 (mineF s.locks p) r h∧X+h=h'):=by
 obtain ⟨p1,q1,p2,q2,p3,q3,p4,q4,p5,q5,p6,q6,p7,q7,rfl,r1,r2,r3,r4,r5,r6,r7⟩:=id hs
 have hhas:=fun n:Int=>refHas_spec w0 X (.slice p3 s.locks.length q3) s.locks p.txn n false r3 hl
 obtain ⟨x1,y1,x2,y2,rfl,_,_⟩:=id hp
 refine zN Tryz.func139 G Tryz.ntmps139 Tryz.results139 G fun fr=>?_
 repeat (first|refine zF ?_|refine zR ?_|refine zB ?_|refine zE ?_|refine zK G G G ?_|refine L_box G (c:=[_,_,_,_,_,_,_]) G G G (fun _=>?_)|refine L_box G (c:=[_,_,_,_,_,_,_,_,_,_]) G G G (fun _=>?_))
 rename_i b2 b3
 refine hold_count 64 (fun k g L=>∃ (vo:Value) (h R:Hp),g=[(2,.pointer (some ⟨b2,0,none⟩)),(3,.pointer (some ⟨b3,0,none⟩)),(5,vo),(6,.int .i64 k)]∧OwL w0 0 (mineTo s.locks p k) vo h∧(k=0∨0<p.snap)∧L=X+h+pt b2 (.cells (cellsS s (.slice p1 s.blocks.length q1) (.slice p2 s.kept.length q2) (.slice p3 s.locks.length q3) (.slice p4 s.preps.length q4) (.slice p5 s.dead.length q5) (.slice p6 s.outs.length q6) (.slice p7 s.sess.length q7)).toArray 33 (0,0))+pt b3 (.cells [.int .i64 p.txn,.int .i64 p.age,.int .i64 p.snap,.int .i64 p.lo,.int .i64 p.hi,.slice x1 p.parts.length y1,.slice x2 p.writes.length y2].toArray 57 (0,0))+fr+R) _
  ⟨.slice none 0 0,0,_,rfl,OwL.nil _ _,.inl G,by simp only [yB]; exact yK.out⟩ (by repeat (first|exact zT _|refine zO G ?_)) ?_
 rintro k g L hk ⟨vo,h,R,rfl,ho,hks,rfl⟩
 repeat (first|refine zF ?_|refine zB ?_|refine zK G G G ?_)
 refine yG G G (pv_lss G G) (fun n1=>?_) (fun n1=>?_)
 ·repeat (first|refine zK G G G ?_|refine zZ G G G G G ?_|refine L_ld G G G G G ?_)
  refine yG G G (pv_gtr G G) (fun n2=>?_) (fun n2=>?_)
  ·have hlen:=mineTo_len s.locks p k
   have hsucc:=mineTo_succ s.locks p k
   by_cases n3:p.lo≤(k:Int)∧(k:Int)<p.hi
   ·rw [decide_eq_true n3,Bool.true_and] at hsucc
    repeat (first|refine zF ?_|refine zR ?_|refine zB ?_|refine zE ?_|refine zK G G G ?_|refine zZ G G G G G ?_|refine L_ld G G G G G ?_|refine zP ?_|refine zJ G ?_)
    refine L_yes G G (pv_geq G G) n3.1 ?_
    repeat (first|refine zK G G G ?_|refine zZ G G G G G ?_|refine L_ld G G G G G ?_)
    refine L_yes G G (pv_lss G G) n3.2 ?_
    repeat (first|refine zK G G G ?_|refine zZ G G G G G ?_|refine L_ld G G G G G ?_)
    refine zY G G (zQ G G G) (hhas k) ?_
    rintro _ _ ⟨rfl,rfl⟩
    cases hh:hasL s.locks p.txn k false
    ·rw [hh,if_neg (by simp),List.append_nil] at hsucc
     repeat (first|refine zB ?_|refine zE ?_|refine zK G G G ?_|refine zP ?_|refine zI G ?_|refine L_add G G (by omega) (by omega) G G ?_)
     exact ⟨by omega,_,(by repeat (first|exact zT _|refine zO G ?_)),vo,h,_,rfl,by rw [hsucc]; exact ho,.inr n2,yK.out⟩
    ·rw [hh,if_pos G] at hsucc
     repeat (first|refine zB ?_|refine zE ?_|refine zK G G G ?_|refine zJ G ?_|refine L_bs (vs:=[_]) (cells:=[_]) G G G G G G (fun _=>?_))
     refine L_eff G G (ev_appendL (X:=0) (ns:=[(k:Int)]) (h:=h) G G ho (rd_one G) (All2.one G) G G G G G (by simp only [List.length_singleton]; omega)) ?_
     rintro vo' _ ⟨h',ho',rfl⟩
     repeat (first|refine zB ?_|refine zE ?_|refine zK G G G ?_|refine L_add G G (by omega) (by omega) G G ?_)
     exact ⟨by omega,_,(by repeat (first|exact zT _|refine zO G ?_)),vo',h',_,rfl,by rw [hsucc]; exact ho',.inr n2,yK.out⟩
   ·rw [decide_eq_false n3,Bool.false_and,if_neg (by simp),List.append_nil] at hsucc
    repeat' (first|refine zF ?_|refine zR ?_|refine zB ?_|refine zE ?_|refine zK G G G ?_|refine zZ G G G G G ?_|refine L_ld G G G G G ?_|refine L_skip G G ?_|refine zP ?_|refine zJ G ?_|refine zI G ?_|refine L_add G G (by omega) (by omega) G G ?_|refine L_no G G (pv_lss G G) (by omega) ?_|refine yG G G (pv_geq G G) (fun _=>?_) (fun _=>?_)|exact ⟨by omega,_,(by repeat (first|exact zT _|refine zO G ?_)),vo,h,_,rfl,by rw [hsucc]; exact ho,.inr n2,yK.out⟩|done)
  ·obtain rfl:k=0:=by omega
   have e0:mineF s.locks p=mineTo s.locks p 0:=by unfold mineF; rw [if_neg (by omega)]; rfl
   rw [e0]
   repeat (first|refine zF ?_|refine yD ?_|refine zB ?_|refine zE ?_|refine zK G G G ?_|refine zM ?_|refine zI G ?_)
   exact ⟨[_],X+h,_,⟨rfl,trivial⟩,⟨h,ho,rfl⟩,yK.out⟩
 ·obtain rfl:k=64:=by omega
  have e0:mineF s.locks p=mineTo s.locks p 64:=by unfold mineF; rw [if_pos (by omega)]; rfl
  rw [e0]
  repeat (first|refine zF ?_|refine yD ?_|refine zB ?_|refine zE ?_|refine zK G G G ?_|refine L_skip G G ?_|refine zM ?_|refine zI G ?_)
  exact ⟨[_],X+h,_,⟨rfl,trivial⟩,⟨h,ho,rfl⟩,yK.out⟩
theorem refHas22_spec (w0:World) (X:Hp) (s:Shd) (es:List Value) (n:Int) (hs:RdShd w0 X s es) :
  Spec Tryz.prog w0 136 [.agg es.toArray,.int .i64 n] 0 (fun r h'=>r=.bool (decide (s.lo≤n∧n<s.hi))∧0=h'):=by
 obtain ⟨p1,q1,p2,q2,p3,q3,p4,q4,p5,q5,p6,q6,p7,q7,rfl,r1,r2,r3,r4,r5,r6,r7⟩:=id hs
 refine zN Tryz.func136 G Tryz.ntmps136 Tryz.results136 G fun fr=>?_
 repeat' (first|refine zF ?_|refine zB ?_|refine zE ?_|refine zK G G G ?_|refine zZ G G G G G ?_|refine L_ld G G G G G ?_|refine L_skip G G ?_|refine zM ?_|refine L_box G (c:=[_,_,_,_,_,_,_,_,_,_]) G G G (fun _=>?_)|refine yG G G (pv_lss G G) (fun _=>?_) (fun _=>?_)|refine yG G G (pv_geq G G) (fun _=>?_) (fun _=>?_)|exact ⟨[_],0,_,⟨rfl,trivial⟩,⟨by first|exact bool_T (by omega)|exact bool_F (by omega),rfl⟩,yK.out⟩|done)
theorem refKept_spec (w0:World) (X:Hp) (v:Value) (l:List Kpt) (snap no:Int) (hv:RdL w0 X v l) (hl:l.length≤1000000000) (hd:∀ x∈l,x.data.length≤1000000000) :
  Spec Tryz.prog w0 137 [v,.int .i64 snap,.int .i64 no] X
   (fun r h'=>∃ vd h,r=.tuple #[vd,.bool (keptK l snap no).isSome]∧OwL w0 0 (match keptK l snap no with|some x=>x.data|none=>[]) vd h∧X+h=h'):=by
 obtain ⟨a,c,rfl⟩:=hv.shape
 refine zN Tryz.func137 G Tryz.ntmps137 Tryz.results137 G fun fr=>?_
 repeat (first|refine zF ?_|refine zR ?_|refine zB ?_|refine zE ?_|refine zK G G G ?_)
 refine hold_count l.length (fun k g L=>∃ R:Hp,g=[(0,.slice a l.length c),(1,.int .i64 snap),(2,.int .i64 no),(8,.int .i64 k)]∧(l.take k).find? (fun x=>decide (x.snap=snap∧x.no=no))=none∧L=X+fr+R) _ ⟨0,rfl,by simp,(yB _).symm⟩ (by repeat (first|exact zT _|refine zO G ?_)) ?_
 rintro k g L hk ⟨R,rfl,hpre,rfl⟩
 repeat (first|refine zF ?_|refine zB ?_|refine zK G G G ?_|refine L_len G G G ?_)
 refine yG G G (pv_lss G G) (fun n0=>?_) (fun n0=>?_)
 ·have hx:k<l.length:=by omega
  have hdl:=hd _ (List.getElem_mem hx)
  have htk:=List.take_succ_eq_append_getElem hx
  have hno:¬ (l[k].snap=snap∧l[k].no=no)→(l.take (k+1)).find? (fun x=>decide (x.snap=snap∧x.no=no))=none:=fun h=>by
   rw [htk,List.find?_append,hpre]; simp [h]
  have hyes:l[k].snap=snap∧l[k].no=no→keptK l snap no=some l[k]:=fun h=>by
   unfold keptK
   have e:l=l.take (k+1)++l.drop (k+1):=(List.take_append_drop _ _).symm
   rw [show l.find? (fun x=>decide (x.snap=snap∧x.no=no))=(l.take (k+1)++l.drop (k+1)).find? (fun x=>decide (x.snap=snap∧x.no=no)) from congrArg _ e,List.find?_append,htk,List.find?_append,hpre]
   simp [h]
  obtain ⟨b2,o2,rfl,e,⟨a3,c3,rfl,hdat⟩,hat⟩:=hv.at hx
  generalize l[k]=y at *
  repeat (first|refine zF ?_|refine zR ?_|refine zB ?_|refine zE ?_|refine zK G G G ?_|refine zZ G G G G G ?_|refine zP ?_|refine zJ G ?_|refine L_idx G G (by omega) G G ?_|refine L_atf G (by assumption) G G G G ?_)
  refine yG G G (pv_eql G G) (fun n1=>?_) (fun n1=>?_)
  ·repeat (first|refine zK G G G ?_|refine zZ G G G G G ?_|refine L_idx G G (by omega) G G ?_|refine L_atf G (by assumption) G G G G ?_)
   refine yG G G (pv_eql G G) (fun n2=>?_) (fun n2=>?_)
   ·rw [hyes ⟨n1,n2⟩]
    repeat (first|refine zF ?_|refine zB ?_|refine zE ?_|refine zK G G G ?_|refine zZ G G G G G ?_|refine zJ G ?_|refine L_idx G G (by omega) G G ?_|refine L_atf G (by assumption) G G G G ?_)
    refine zY G G (zQ G G G) (copyB_spec w0 X _ _ hdat hdl) ?_
    rintro vc _ ⟨hc,hcl,rfl⟩
    repeat (first|refine zE ?_|refine zK G G G ?_|refine zM ?_)
    exact ⟨[_,_],X+hc,_,⟨rfl,rfl,trivial⟩,⟨vc,hc,rfl,hcl,rfl⟩,yK.out⟩
   ·repeat (first|refine zB ?_|refine zE ?_|refine zK G G G ?_|refine zP ?_|refine zI G ?_|refine L_add G G (by omega) (by omega) G G ?_)
    exact ⟨hx,_,(by repeat (first|exact zT _|refine zO G ?_)),_,rfl,hno (fun h=>n2 h.2),yK.out⟩
  ·repeat (first|refine zB ?_|refine zE ?_|refine zK G G G ?_|refine L_skip G G ?_|refine zP ?_|refine zI G ?_|refine L_add G G (by omega) (by omega) G G ?_)
   exact ⟨hx,_,(by repeat (first|exact zT _|refine zO G ?_)),_,rfl,hno (fun h=>n1 h.1),yK.out⟩
 ·rw [List.take_of_length_le (by omega)] at hpre
  have e0:keptK l snap no=none:=hpre
  rw [e0]
  repeat (first|refine zF ?_|refine yD ?_|refine zB ?_|refine zE ?_|refine zK G G G ?_|refine zM ?_|refine zI G ?_)
  exact ⟨[_,_],X+0,_,⟨rfl,rfl,trivial⟩,⟨_,0,rfl,OwL.nil _ _,rfl⟩,by simp only [yB]; exact yK.out⟩
theorem refServe_spec (w0:World) (X:Hp) (s:Shd) (es:List Value) (o:Opn) (eo:List Value) (hs:RdShd w0 X s es) (ho:Rep.rd w0 X o eo) (hz:SizeS s) (hl:o.parts.length≤1000000000∧o.reads.length≤1000000000∧o.writes.length≤1000000000) :
  Spec Tryz.prog w0 40 [.agg es.toArray,.agg eo.toArray] X (fun r h'=>∃ h,OwR w0 (serveF s o) r h∧X+h=h'):=by
 have hchk:=refCheck_spec w0 X o eo ho hl
 have hhas:=refHas22_spec w0 X s es o.block hs
 have hmine:=fun (Y:Hp) (p:Prp) (ep:List Value) (hp:Rep.rd w0 Y p ep)=>refMine_spec w0 X Y s es p ep hs hp hz.lk
 obtain ⟨p1,q1,p2,q2,p3,q3,p4,q4,p5,q5,p6,q6,p7,q7,rfl,r1,r2,r3,r4,r5,r6,r7⟩:=id hs
 obtain ⟨x1,y1,x2,y2,x3,y3,x4,y4,rfl,_⟩:=id ho
 have hkp:=refKept_spec w0 X (.slice p2 s.kept.length q2) s.kept o.snap o.block r2 hz.kp.1 hz.kp.2
 have z1:=hz.pr.1
 refine zN Tryz.func40 G Tryz.ntmps40 Tryz.results40 G fun fr=>?_
 repeat (first|refine zF ?_|refine zB ?_|refine zE ?_|refine L_ldA G (vs:=[_,_,_,_,_,_,_,_,_,_,_,_,_,_,_,_,_]) G G G G G ?_|refine L_box G (c:=[_,_,_,_,_,_,_,_,_,_]) G G G (fun _=>?_)|refine L_box G (c:=[_,_,_,_,_,_,_,_,_,_,_,_,_,_,_,_,_]) G G G (fun _=>?_)|refine L_alloc (c:=[_,_]) G G G (fun _=>?_))
 rename_i b2 b3 b4
 refine zY G G (zQ G G G) hchk ?_
 rintro _ _ ⟨rfl,rfl⟩
 repeat (first|refine zF ?_|refine zB ?_|refine zE ?_|refine zK G G G ?_)
 refine yG G G (pv_neq G G) (fun n0=>?_) (fun n0=>?_)
 ·repeat (first|refine zF ?_|refine zB ?_|refine zE ?_|refine zK G G G ?_|refine zM ?_|refine zJ G ?_|refine L_build (vs:=[_]) (cells:=[_,_]) G G G G ?_|refine L_stA G (vs:=[_,_]) G G G G (c':=[_,_]) G G ?_)
  exact ⟨[_],X+0,_,⟨⟨_,rfl,zL G G G⟩,trivial⟩,⟨0,by rw [sv_check n0]; exact OwR.code w0 _,rfl⟩,by simp only [yB]; exact yK.out⟩
 repeat (first|refine zF ?_|refine zB ?_|refine zE ?_|refine zZ G G G G G ?_|refine L_ld G G G G G ?_|refine zP ?_|refine zI G ?_)
 refine yG G G (pv_neq G G) (fun n1=>?_) (fun n1=>?_)
 ·repeat (first|refine zF ?_|refine zB ?_|refine zE ?_|refine zM ?_|refine zJ G ?_|refine L_build (vs:=[_]) (cells:=[_,_]) G G G G ?_|refine L_stA G (vs:=[_,_]) G G G G (c':=[_,_]) G G ?_)
  exact ⟨[_],X+0,_,⟨⟨_,rfl,zL G G G⟩,trivial⟩,⟨0,by rw [sv_kind n0 n1]; exact OwR.code w0 _,rfl⟩,by simp only [yB]; exact yK.out⟩
 repeat (first|refine zF ?_|refine zB ?_|refine zE ?_|refine zZ G G G G G ?_|refine L_ld G G G G G ?_|refine zP ?_|refine zI G ?_)
 refine yG G G (pv_neq G G) (fun n2=>?_) (fun n2=>?_)
 ·repeat (first|refine zF ?_|refine zB ?_|refine zE ?_|refine zK G G G ?_|refine L_skip G G ?_|refine zM ?_|refine zJ G ?_|refine L_build (vs:=[_]) (cells:=[_,_]) G G G G ?_|refine L_stA G (vs:=[_,_]) G G G G (c':=[_,_]) G G ?_)
  exact ⟨[_],X+0,_,⟨⟨_,rfl,zL G G G⟩,trivial⟩,⟨0,by rw [sv_out n0 n1 (.inl n2)]; exact OwR.code w0 _,rfl⟩,by simp only [yB]; exact yK.out⟩
 repeat (first|refine zK G G G ?_|refine zZ G G G G G ?_|refine L_ld G G G G G ?_|refine L_ldA G (vs:=[_,_,_,_,_,_,_,_,_,_]) G G G G G ?_)
 refine L_callD G G (zQ G G G) hhas (fun n3=>?_) (fun n3=>?_)
 rotate_left
 ·repeat (first|refine zF ?_|refine zB ?_|refine zE ?_|refine zK G G G ?_|refine zM ?_|refine zJ G ?_|refine L_build (vs:=[_]) (cells:=[_,_]) G G G G ?_|refine L_stA G (vs:=[_,_]) G G G G (c':=[_,_]) G G ?_)
  exact ⟨[_],X+0,_,⟨⟨_,rfl,zL G G G⟩,trivial⟩,⟨0,by rw [sv_out n0 n1 (.inr n3)]; exact OwR.code w0 _,rfl⟩,by simp only [yB]; exact yK.out⟩
 have n4:¬ (o.epoch≠s.epoch∨¬ (s.lo≤o.block∧o.block<s.hi)):=fun h=>h.elim n2 (fun h=>h n3)
 repeat (first|refine zF ?_|refine zB ?_|refine zE ?_|refine zK G G G ?_|refine zZ G G G G G ?_|refine L_ld G G G G G ?_|refine zP ?_|refine zI G ?_)
 refine zY G G (zQ G G G) hkp ?_
 rintro _ _ ⟨vd,hd,rfl,hod,rfl⟩
 generalize hkk:keptK s.kept o.snap o.block=kq at *
 obtain ⟨ad,cd,rfl⟩:=hod.shape
 cases kq with
 | some x =>
  repeat (first|refine zF ?_|refine zB ?_|refine zE ?_|refine zK G G G ?_|refine zM ?_|refine zJ G ?_|refine L_build (vs:=[_]) (cells:=[_,_]) G G G G ?_|refine L_stA G (vs:=[_,_]) G G G G (c':=[_,_]) G G ?_)
  exact ⟨[_],X+hd,_,⟨⟨_,rfl,zL G G G⟩,trivial⟩,⟨hd,by rw [sv_kept n0 n1 n4 hkk]; exact ⟨ad,cd,rfl,hod⟩,rfl⟩,yK.out⟩
 | none =>
  repeat (first|refine zF ?_|refine zR ?_|refine zB ?_|refine zE ?_|refine zK G G G ?_|refine zP ?_|refine zI G ?_)
  refine hold_count s.preps.length (fun k g L=>∃ R:Hp,g=[(2,.pointer (some ⟨b2,0,none⟩)),(3,.pointer (some ⟨b3,0,none⟩)),(4,.pointer (some ⟨b4,0,none⟩)),(8,.int .i64 k)]∧(∀ p∈s.preps.take k,(fun p:Prp=>decide (p.snap=o.snap∧o.block∈mineF s.locks p)) p=false)∧L=X+pt b2 (.cells (cellsS s (.slice p1 s.blocks.length q1) (.slice p2 s.kept.length q2) (.slice p3 s.locks.length q3) (.slice p4 s.preps.length q4) (.slice p5 s.dead.length q5) (.slice p6 s.outs.length q6) (.slice p7 s.sess.length q7)).toArray 33 (0,0))+pt b3 (.cells [.int .i64 o.kind,.int .i64 o.client,.int .i64 o.seq,.int .i64 o.txn,.int .i64 o.age,.int .i64 o.epoch,.int .i64 o.lo,.int .i64 o.hi,.int .i64 o.block,.int .i64 o.snap,.int .i64 o.value,.int .i64 o.src,.int .i64 o.dst,.slice x1 o.parts.length y1,.slice x2 o.reads.length y2,.slice x3 o.writes.length y3,.slice x4 o.data.length y4].toArray 49 (0,0))+pt b4 (.cells [.int .i64 0,.slice none 0 0].toArray 51 (0,0))+fr+R) _ ⟨_,rfl,by simp,yK.out⟩ (by repeat (first|exact zT _|refine zO G ?_)) ?_
  rintro k g L hk ⟨R,rfl,hpre,rfl⟩
  repeat (first|refine zF ?_|refine zB ?_|refine zK G G G ?_|refine zZ G G G G G ?_|refine L_ld G G G G G ?_|refine L_len G G G ?_)
  refine yG G G (pv_lss G G) (fun n5=>?_) (fun n5=>?_)
  ·have hx:k<s.preps.length:=by omega
   have hme:=List.getElem_mem hx
   have hnext:=all_take_succ hx hpre
   obtain ⟨b6,o6,rfl,e,he,hat⟩:=r4.at hx
   have hm:=hmine X _ e he
   generalize s.preps[k]=p at *
   have hml:=mineF_len s.locks p
   obtain ⟨u1,v1,u2,v2,rfl,_,_⟩:=id he
   repeat (first|refine zF ?_|refine zR ?_|refine zE ?_|refine zP ?_|refine zJ G ?_)
   refine yC [16,19] [0,1,2,3,4,5,6,7,8,9,10,11,12,13,14,15,17,18,16,19,20] (by kernel_rfl) G (by kernel_rfl) (by kernel_rfl) ?_
   repeat (first|refine yI G G G G G ?_|refine yE G G G G (yA G G G) ?_|refine W_load G G G G (yF G) (zG G (zS G)) ?_|refine W_idx G G G (by omega) G G G ?_|refine W_atf G G (by assumption) G G G G G ?_)
   refine W_dec G G G G (pv_eql G G) (fun n6=>?_) (fun n6=>?_)
   ·repeat (first|refine yI G G G G G ?_|refine yE G G G G (yA G G G) ?_|refine W_load G G G G (yF G) (zG G (zS G)) ?_|refine W_load G G G G (yF G) (zL (vs:=[_,_,_,_,_,_,_,_,_,_]) G G G) ?_|refine W_idx G G G (by omega) G G G ?_|refine W_atA G G (by assumption) G G G G G ?_)
    refine W_call G G G G (zQ G G G) hm (Kept.all _) ?_
    rintro vm _ ⟨hm2,hom,rfl⟩
    have hrd:RdL w0 hm2 vm (mineF s.locks p):=hom.rd0.mono (show hm2=0+hm2+0 by rw [hzero_add,yB])
    obtain ⟨am,cm,rfl⟩:=hom.shape
    refine ⟨(by repeat (first|exact trivial|exact zG G (zS G)|exact zL G G G|exact zX G (by assumption) G|exact zH G (by assumption) G|exact zH G (by assumption) (by assumption)|refine ⟨?_,?_⟩)),?_⟩
    skip
    refine W_call G G G G (zQ G G G) (refIn10_spec w0 hm2 _ (mineF s.locks p) o.block hrd (by omega)) (Kept.all _) ?_
    rintro _ _ ⟨rfl,rfl⟩
    refine ⟨(by repeat (first|exact trivial|exact zG G (zS G)|exact zL G G G|exact zX G (by assumption) G|exact zH G (by assumption) G|exact zH G (by assumption) (by assumption)|refine ⟨?_,?_⟩)),?_⟩
    by_cases n7:o.block∈mineF s.locks p
    ·rw [decide_eq_true n7]
     repeat (first|refine yJ ?_|refine yI G G G G G ?_)
     repeat (first|refine zF ?_|refine zB ?_|refine zE ?_|refine zM ?_|refine zJ G ?_|refine L_build (vs:=[_]) (cells:=[_,_]) G G G G ?_|refine L_stA G (vs:=[_,_]) G G G G (c':=[_,_]) G G ?_)
     exact ⟨[_],X+0,_,⟨⟨_,rfl,zL G G G⟩,trivial⟩,⟨0,by rw [sv_busy n0 n1 n4 hkk (List.any_eq_true.2 ⟨p,hme,decide_eq_true ⟨n6,n7⟩⟩)]; exact OwR.code w0 _,rfl⟩,by simp only [yB]; exact yK.out⟩
    ·rw [decide_eq_false n7]
     repeat (first|refine yJ ?_|refine yI G G G G G ?_)
     repeat (first|refine zB ?_|refine zE ?_|refine zK G G G ?_|refine zP ?_|refine zI G ?_|refine L_add G G (by omega) (by omega) G G ?_)
     exact ⟨hx,_,(by repeat (first|exact zT _|refine zO G ?_)),_,rfl,hnext (decide_eq_false (fun h=>n7 h.2)),yK.out⟩
   ·repeat (first|refine yJ ?_|refine yI G G G G G ?_|refine W_skip G G G G ?_|refine W_not G G G G ?_)
    repeat (first|refine zB ?_|refine zE ?_|refine zK G G G ?_|refine zP ?_|refine zI G ?_|refine L_add G G (by omega) (by omega) G G ?_)
    exact ⟨hx,_,(by repeat (first|exact zT _|refine zO G ?_)),_,rfl,hnext (decide_eq_false (fun h=>n6 h.1)),yK.out⟩
  ·rw [List.take_of_length_le (by omega)] at hpre
   repeat (first|refine zF ?_|refine yD ?_|refine zB ?_|refine zE ?_|refine zM ?_|refine zI G ?_|refine L_build (vs:=[_]) (cells:=[_,_]) G G G G ?_|refine L_stA G (vs:=[_,_]) G G G G (c':=[_,_]) G G ?_)
   exact ⟨[_],X+0,_,⟨⟨_,rfl,zL G G G⟩,trivial⟩,⟨0,by rw [sv_snap n0 n1 n4 hkk (by rw [List.any_eq_false.2 (fun x hx=>by simpa using hpre x hx)]; simp)]; exact OwR.code w0 _,rfl⟩,by simp only [yB]; exact yK.out⟩
end Sl
end Go.Proofs.YtpkealohodeifaaGreat
namespace Go.Proofs.YtpkealohodeifaaGreat
open Go Go.RowKit
namespace Sl
set_option maxHeartbeats 16000000
set_option maxRecDepth 4000
set_option synthInstance.maxHeartbeats 400000
set_option synthInstance.maxSize 100000
attribute [local irreducible] Hold HoldL HoldW
theorem playF_one4 (s:Shd) {l:List Opn} {k:Nat} (h:k<l.length):(playF s (l.take (k+1))).1=(applyF (playF s (l.take k)).1 l[k]).1:=by rw [playF_succ s h]
theorem shardServes_spec (w0:World) (lo hi ep:Int) (v:Value) (l:List Opn) (o:Opn) (eo:List Value) (hv:RdL w0 0 v l) (hl:l.length≤17592186044416) (hlo:∀ o∈l,LenO o) (hni:∀ o∈l,NumsIn o) (ho:Rep.rd w0 0 o eo) (hol:LenO o) (hon:NumsIn o) :
  Spec Tryz.prog w0 9 [.int .i64 lo,.int .i64 hi,.int .i64 ep,v,.agg eo.toArray] 0 (fun r h'=>r=.bool true∧0=h'):=by
 have hbo:=bigOp_spec w0 0 o eo ho hol
 obtain ⟨a,c,rfl⟩:=hv.shape
 obtain ⟨x1,y1,x2,y2,x3,y3,x4,y4,rfl,_⟩:=id ho
 refine zN Tryz.func9 G Tryz.ntmps9 Tryz.results9 G fun fr=>?_
 repeat (first|refine zF ?_|refine zB ?_|refine zE ?_|refine zK G G G ?_|refine L_box G (c:=[_,_,_,_,_,_,_,_,_,_,_,_,_,_,_,_,_]) G G G (fun _=>?_))
 refine zY G G (zQ G G G) (first22_spec w0 lo hi ep) ?_
 rintro _ _ ⟨⟨q,rfl,hq⟩,rfl⟩
 repeat (first|refine zF ?_|refine zB ?_|refine zE ?_|refine zK G G G ?_|refine L_stA G (vs:=[_,_,_,_,_,_,_,_,_,_]) G G G G (c':=[_,_,_,_,_,_,_,_,_,_]) G G ?_|refine L_alloc (c:=[_,_,_,_,_,_,_,_,_,_]) G G G (fun _=>?_))
 rename_i bo b11
 refine zY G G (zQ G G G) (big_spec w0 0 _ l hv hl hlo) ?_
 rintro _ _ ⟨hbig,rfl⟩
 rcases hbig with rfl|⟨rfl,hb1,hb2⟩
 ·repeat (first|refine zF ?_|refine zB ?_|refine zE ?_|refine zK G G G ?_|refine L_skip G G ?_|refine zJ G ?_)
  refine zY G G (zQ G G G) (works22_spec w0) ?_
  rintro _ _ ⟨rfl,rfl⟩
  repeat (first|refine zE ?_|refine zK G G G ?_|refine zM ?_)
  exact ⟨[_],0,_,⟨rfl,trivial⟩,⟨rfl,rfl⟩,yK.out⟩
 cases q
 ·repeat (first|refine zF ?_|refine zB ?_|refine zE ?_|refine zK G G G ?_|refine L_skip G G ?_|refine zJ G ?_)
  refine zY G G (zQ G G G) (works22_spec w0) ?_
  rintro _ _ ⟨rfl,rfl⟩
  repeat (first|refine zE ?_|refine zK G G G ?_|refine zM ?_)
  exact ⟨[_],0,_,⟨rfl,trivial⟩,⟨rfl,rfl⟩,yK.out⟩
 repeat (first|refine zK G G G ?_|refine L_ldA G (vs:=[_,_,_,_,_,_,_,_,_,_,_,_,_,_,_,_,_]) G G G G G ?_)
 refine zY G G (zQ G G G) hbo ?_
 rintro _ _ ⟨hbo2,rfl⟩
 rcases hbo2 with rfl|⟨rfl,hso⟩
 ·repeat (first|refine zF ?_|refine zB ?_|refine zE ?_|refine zK G G G ?_|refine zJ G ?_)
  refine zY G G (zQ G G G) (works22_spec w0) ?_
  rintro _ _ ⟨rfl,rfl⟩
  repeat (first|refine zE ?_|refine zK G G G ?_|refine zM ?_)
  exact ⟨[_],0,_,⟨rfl,trivial⟩,⟨rfl,rfl⟩,yK.out⟩
 have hsml:=hso.small
 have hol3:o.parts.length≤1000000000∧o.reads.length≤1000000000∧o.writes.length≤1000000000:=⟨by have:=hso.1; omega,by have:=hso.2.1; omega,by have:=hso.2.2.1; omega⟩
 have hg0:=newS_good (hq G)
 have hr0:=newS_rd w0 0 lo hi ep
 generalize newS lo hi ep=s0 at *
 repeat (first|refine zF ?_|refine zR ?_|refine zB ?_|refine zE ?_|refine zK G G G ?_|refine zP ?_|refine zI G ?_)
 refine hold_count l.length (fun k g L=>∃ (ek:List Value) (D R:Hp),g=[(3,.slice a l.length c),(9,.pointer (some ⟨bo,0,none⟩)),(11,.pointer (some ⟨b11,0,none⟩)),(13,.int .i64 k)]∧RdShd w0 D (playF s0 (l.take k)).1 ek ∧
  L=D+pt b11 (.cells ek.toArray 33 (0,0))+pt bo (.cells [.int .i64 o.kind,.int .i64 o.client,.int .i64 o.seq,.int .i64 o.txn,.int .i64 o.age,.int .i64 o.epoch,.int .i64 o.lo,.int .i64 o.hi,.int .i64 o.block,.int .i64 o.snap,.int .i64 o.value,.int .i64 o.src,.int .i64 o.dst,.slice x1 o.parts.length y1,.slice x2 o.reads.length y2,.slice x3 o.writes.length y3,.slice x4 o.data.length y4].toArray 49 (0,0))+fr+R) _ ⟨_,0,_,rfl,hr0,yK.out⟩ (by repeat (first|exact zT _|refine zO G ?_)) ?_
 rintro k g L hk ⟨ek,D,R,rfl,hrk,rfl⟩
 obtain ⟨g1,g2⟩:=playF_good hg0 (l:=l) (by omega) k hk
 have hone:=fun h:k<l.length=>playF_one4 s0 h
 generalize hsk:(playF s0 (l.take k)).1=sk at *
 obtain ⟨k1,qk1,k2,qk2,k3,qk3,k4,qk4,k5,qk5,k6,qk6,k7,qk7,rfl,_,_,_,_,_,_,_⟩:=id hrk
 repeat (first|refine zF ?_|refine zB ?_|refine zK G G G ?_|refine L_len G G G ?_)
 refine yG G G (pv_lss G G) (fun n1=>?_) (fun n1=>?_)
 ·have hx:k<l.length:=by omega
  have hsucc:=hone hx
  obtain ⟨b7,o7,rfl,e,he,hat⟩:=hv.at hx
  have hmem:=List.getElem_mem hx
  generalize l[k]=o2 at *
  have happ:=apply22_spec w0 D sk _ o2 e (0+k) hrk (Rep.mono (hzero_add _).symm he) g1 (by omega) (hni _ hmem) (hb2 _ hmem).small
  obtain ⟨u1,v1,u2,v2,u3,v3,u4,v4,rfl,_⟩:=id he
  generalize applyF sk o2=ap at *
  obtain ⟨s1,r1⟩:=ap
  have hsc:(playF s0 (List.take (k+1) l)).1=s1:=hsucc
  repeat (first|refine zF ?_|refine zR ?_|refine zE ?_|refine zP ?_|refine zJ G ?_)
  refine yC [5,9] [0,1,2,3,4,5,6,7,8,9] (by kernel_rfl) G (by kernel_rfl) (by kernel_rfl) ?_
  repeat (first|refine yI G G G G G ?_|refine W_load G G G G (yF G) (zL (vs:=[_,_,_,_,_,_,_,_,_,_]) G G G) ?_|refine W_idx G G G (by omega) G G G ?_|refine W_atA G G (by assumption) G G G G G ?_)
  refine W_call G G G G (zQ G G G) happ (Kept.all _) ?_
  rintro _ _ ⟨e1,e2,D2,h,hr,rfl,how,hor,rfl⟩
  have hrd1:RdShd w0 (D+(D2+h+hr)) s1 e1:=how.rd.mono (show _=D2+h+(D+hr) by ac_rfl)
  obtain ⟨m1,qm1,m2,qm2,m3,qm3,m4,qm4,m5,qm5,m6,qm6,m7,qm7,rfl,_,_,_,_,_,_,_⟩:=id hrd1
  obtain ⟨a8,c8,e28,_⟩:=id hor
  obtain rfl:e2=[.int .i64 r1.code,.slice a8 r1.data.length c8]:=by simpa using e28
  refine ⟨(by repeat (first|exact trivial|exact zG G (zS G)|exact zL G G G|exact zX G (by assumption) G|exact zH G (by assumption) G|exact zH G (by assumption) (by assumption)|refine ⟨?_,?_⟩)),?_⟩
  repeat (refine yI G G G G G ?_)
  refine W_eff (W':=?wk1) G G G G (ev_storeA (vs:=[_,_,_,_,_,_,_,_,_,_]) G G G G (c:=[_,_,_,_,_,_,_,_,_,_]) (Nat.le_of_ble_eq_true G) (c':=[_,_,_,_,_,_,_,_,_,_]) G) ?wkk1 ?wrest1
  case wkk1=>repeat (first|exact Kept.nil|refine Kept.drop (by kernel_rfl) ?_|refine Kept.keep ?_)
  rintro _ _ rfl
  refine ⟨(by repeat (first|exact trivial|exact zG G (zS G)|exact zL G G G|exact zX G (by assumption) G|exact zH G (by assumption) G|exact zH G (by assumption) (by assumption)|refine ⟨?_,?_⟩)),?_⟩
  repeat (refine yJ ?_)
  repeat (first|refine zB ?_|refine zE ?_|refine zK G G G ?_|refine L_add G G (by omega) (by omega) G G ?_)
  exact ⟨hx,_,(by repeat (first|exact zT _|refine zO G ?_)),_,D+(D2+h+hr),_,rfl,by rw [hsc]; exact hrd1,yK.out⟩
 ·clear hone
  have hz:SizeS sk:=g1.sizeS (by omega)
  have hkok:OkK sk.kept:=g1.ok.kept
  have hserve:=serve22_spec w0 D sk _ o _ hrk (Rep.mono (hzero_add _).symm ho) hz hkok hon hol3
  have hcopy:=copyShd_spec w0 D sk _ hrk hz
  repeat (first|refine zF ?_|refine yD ?_|refine zB ?_|refine zE ?_|refine zI G ?_|refine L_ldA G (vs:=[_,_,_,_,_,_,_,_,_,_]) G G G G G ?_)
  refine zY G G (zQ G G G) hcopy ?_
  rintro _ _ ⟨e2,D2,rfl,hrw,rfl⟩
  have href:=refServe_spec w0 D2 sk _ o _ hrw (Rep.mono (hzero_add _).symm ho) hz hol3
  have hss:=sameShd1_spec w0 (D+D2) sk sk _ _ (hrk.mono G) (hrw.mono (hadd_comm _ _)) hz hz
  rw [decide_eq_true (rfl:sk=sk)] at hss
  have hdl:=serveF_len (o:=o) hz
  generalize serveF sk o=r at *
  obtain ⟨m1,qm1,m2,qm2,m3,qm3,m4,qm4,m5,qm5,m6,qm6,m7,qm7,rfl,_,_,_,_,_,_,_⟩:=id hrw
  repeat (first|refine zF ?_|refine zB ?_|refine zE ?_|refine L_ldA G (vs:=[_,_,_,_,_,_,_,_,_,_]) G G G G G ?_|refine L_ldA G (vs:=[_,_,_,_,_,_,_,_,_,_,_,_,_,_,_,_,_]) G G G G G ?_|refine L_stA G (vs:=[_,_,_,_,_,_,_,_,_,_]) G G G G (c':=[_,_,_,_,_,_,_,_,_,_]) G G ?_|refine L_alloc (c:=[_,_,_,_,_,_,_,_,_,_]) G G G (fun _=>?_))
  refine zY G G (zQ G G G) hserve ?_
  rintro _ _ ⟨h3,⟨a3,c3,rfl,oa⟩,rfl⟩
  repeat (first|refine zF ?_|refine zB ?_|refine zE ?_|refine L_ldA G (vs:=[_,_,_,_,_,_,_,_,_,_]) G G G G G ?_|refine L_ldA G (vs:=[_,_,_,_,_,_,_,_,_,_,_,_,_,_,_,_,_]) G G G G G ?_|refine L_stA G (vs:=[_,_]) G G G G (c':=[_,_]) G G ?_|refine L_alloc (c:=[_,_]) G G G (fun _=>?_))
  refine zY G G (zQ G G G) hserve ?_
  rintro _ _ ⟨h4,⟨a4,c4,rfl,ob⟩,rfl⟩
  repeat (first|refine zF ?_|refine zB ?_|refine zE ?_|refine L_ldA G (vs:=[_,_,_,_,_,_,_,_,_,_]) G G G G G ?_|refine L_ldA G (vs:=[_,_,_,_,_,_,_,_,_,_,_,_,_,_,_,_,_]) G G G G G ?_|refine L_stA G (vs:=[_,_]) G G G G (c':=[_,_]) G G ?_|refine L_alloc (c:=[_,_]) G G G (fun _=>?_))
  refine zY G G (zQ G G G) href ?_
  rintro _ _ ⟨h5,⟨a5,c5,rfl,oc⟩,rfl⟩
  have ra:Rep.rd w0 (h3+h5) r [.int .i64 r.code,.slice a3 r.data.length c3]:=⟨a3,c3,rfl,oa.rdh.mono G⟩
  have rc:Rep.rd w0 (h3+h5) r [.int .i64 r.code,.slice a5 r.data.length c5]:=⟨a5,c5,rfl,oc.rdh.mono (hadd_comm _ _)⟩
  have rb:Rep.rd w0 (h4+h5) r [.int .i64 r.code,.slice a4 r.data.length c4]:=⟨a4,c4,rfl,ob.rdh.mono G⟩
  have rc2:Rep.rd w0 (h4+h5) r [.int .i64 r.code,.slice a5 r.data.length c5]:=⟨a5,c5,rfl,oc.rdh.mono (hadd_comm _ _)⟩
  have hs1:=sameRes1_spec w0 (h3+h5) r r _ _ ra rc hdl hdl
  have hs2:=sameRes1_spec w0 (h4+h5) r r _ _ rb rc2 hdl hdl
  rw [decide_eq_true (rfl:r=r)] at hs1 hs2
  repeat (first|refine zF ?_|refine zB ?_|refine zE ?_|refine L_ldA G (vs:=[_,_]) G G G G G ?_|refine L_stA G (vs:=[_,_]) G G G G (c':=[_,_]) G G ?_|refine L_alloc (c:=[_,_]) G G G (fun _=>?_))
  refine zY G G (zQ G G G) hs1 ?_
  rintro _ _ ⟨rfl,rfl⟩
  repeat (first|refine zK G G G ?_|refine L_ldA G (vs:=[_,_,_,_,_,_,_,_,_,_]) G G G G G ?_)
  refine zY G G (zQ G G G) hss ?_
  rintro _ _ ⟨rfl,rfl⟩
  repeat (first|refine zF ?_|refine zB ?_|refine zE ?_|refine zK G G G ?_|refine zZ G G G G G ?_|refine L_ld G G G G G ?_|refine zP ?_|refine zI G ?_)
  refine zY G G (zQ G G G) (spoilB_spec w0 0 _ r.data h3 oa (by omega)) ?_
  rintro _ h6 _
  repeat (first|refine zF ?_|refine zB ?_|refine zE ?_|refine L_ldA G (vs:=[_,_]) G G G G G ?_)
  refine zY G G (zQ G G G) hs2 ?_
  rintro _ _ ⟨rfl,rfl⟩
  repeat (first|refine zK G G G ?_|refine L_ldA G (vs:=[_,_,_,_,_,_,_,_,_,_]) G G G G G ?_)
  refine zY G G (zQ G G G) hss ?_
  rintro _ _ ⟨rfl,rfl⟩
  repeat (refine zK G G G ?_)
  refine zY G G (zQ G G G) (works22_spec w0) ?_
  rintro _ _ ⟨rfl,rfl⟩
  repeat (first|refine zE ?_|refine zK G G G ?_|refine zM ?_)
  exact ⟨[_],0,_,⟨rfl,trivial⟩,⟨rfl,rfl⟩,yK.out⟩
end Sl
end Go.Proofs.YtpkealohodeifaaGreat
