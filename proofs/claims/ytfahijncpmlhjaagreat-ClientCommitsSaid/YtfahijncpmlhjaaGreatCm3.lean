/-
  What clientCommits.proved hangs on, part 3 of 7: ClMt, ClMu, ClMv, ClMw, ClKu, ClMx, ClMy, ClMz, Mp, Shelf, ClSo, ClMd, ClMe, ClPd, ClOa, ClAt, ClWa, ClWb, ClWp, ClOb.
-/
import Derived.Test.YtfahijncpmlhjaaGreatCm2
import Derived.Test.YtfahijncpmlhjaaGreatCm1
import Derived.MapKept
import Derived.Shelf.Sort.Plain
import Derived.Ground.Names2Prog
import Derived.Shelf.Slices.CompactI
import Derived.Shelf.Slices.In.SortNone
import Derived.Test.YtfahijncpmlhjaaGreatProg
set_option linter.unusedVariables false
set_option linter.unusedSimpArgs false
namespace Go.Proofs.YtfahijncpmlhjaaGreat
open Go Go.RowKit
namespace Sl
set_option maxHeartbeats 16000000
set_option maxRecDepth 4000
set_option synthInstance.maxHeartbeats 400000
set_option synthInstance.maxSize 100000
attribute [local irreducible] xY yW xC
def clr (m:Msg) (f:Nat):Msg :=
 if f=111 then { m with ok:=false } else if f=101 then { m with entries:=[] } else if f=100 then { m with data:=[] } else if f=103 then { m with group:=0 } else if f=116 then { m with term:=0 } else if f=105 then { m with index:=0 } else if f=112 then { m with prev:=0 } else if f=99 then { m with commit:=0 } else if f=114 then { m with round:=0 } else if f=115 then { m with seq:=0 } else if f=120 then { m with txn:=0 } else if f=97 then { m with part:=0 } else if f=98 then { m with ballot:=0 } else { m with value:=0 }
def getL (m:Msg) (f:Nat):Int :=
 if f=103 then m.group else if f=116 then m.term else if f=105 then m.index else if f=112 then m.prev else if f=99 then m.commit else if f=114 then m.round else if f=115 then m.seq else if f=120 then m.txn else if f=97 then m.part else if f=98 then m.ballot else m.value
def clrs (m:Msg) (l:List UInt8):Msg:=l.foldl (fun m f=>clr m f.toNat) m
theorem clrs_take (m:Msg) {l:List UInt8} {k:Nat} (h:k<l.length):clrs m (l.take (k+1))=clr (clrs m (l.take k)) l[k].toNat:=by
 unfold clrs
 rw [List.take_succ_eq_append_getElem h,List.foldl_append]; rfl
def letters :List UInt8:=[111,101,100,103,116,105,112,99,114,115,120,97,98,118]
theorem fldsM_in (k:Int):∀ f∈jB k,f∈letters:=by
 unfold jB
 repeat' split
 all_goals decide
theorem letter_cases {f:UInt8} (h:f∈letters):f=111∨f=101∨f=100∨f=103∨f=116∨f=105∨f=112∨f=99∨f=114∨f=115∨f=120∨f=97∨f=98∨f=118:=by simpa [letters] using h
theorem letter_small {f:UInt8} (h:f∈letters):f.toNat<128:=by
 rcases letter_cases h with rfl|rfl|rfl|rfl|rfl|rfl|rfl|rfl|rfl|rfl|rfl|rfl|rfl|rfl<;>decide
def wN :List UInt8:=[103,116,105,112,99,114,115,120,97,98,118]
theorem numbers_cases {f:UInt8} (h:f∈wN):f=103∨f=116∨f=105∨f=112∨f=99∨f=114∨f=115∨f=120∨f=97∨f=98∨f=118:=by simpa [wN] using h
def gK (m:Msg):Bool:=wN.any (fun f=>decide (getL (clrs m (jB m.kind)) f.toNat≠0))||((clrs m (jB m.kind)).ok||(decide (0<(clrs m (jB m.kind)).entries.length)||decide (0<(clrs m (jB m.kind)).data.length)))
theorem fldsM_len (k:Int):(jB k).length≤7:=by
 unfold jB
 repeat' split
 all_goals decide
theorem zdM {G G' : Prop} (h : G') (f : Zh G'→G:=by intro h; (repeat (first|refine zB ?_|refine zE ?_|refine zK M M M ?_|refine zY M M M M M ?_|refine zJ M ?_|refine xD M M M (c':=[_,_,_,_,_,_,_,_,_,_,_,_,_,_,_,_,_]) M M M M ?_)); exact h.o) : G:=f ⟨h⟩
theorem zbK {G G' : Prop} (h : G') (f : Zh G'→G:=by intro h; (repeat (first|refine zE ?_|refine zK M M M ?_|refine xD M M M (c':=[_,_,_,_,_,_,_,_,_,_,_,_,_,_,_,_,_]) M M M M ?_)); exact h.o) : G:=f ⟨h⟩
theorem zaX {G G' : Prop} (h : G') (f : Zh G'→G:=by intro h; (repeat (first|refine zE ?_|refine zP ?_|refine zI M ?_)); exact h.o) : G:=f ⟨h⟩
theorem zaM {G G' : Prop} (h : G') (f : Zh G'→G:=by intro h; (repeat (first|refine zK M M M ?_|refine yM M M M M M ?_)); exact h.o) : G:=f ⟨h⟩
theorem foreign_spec (w0:World) (m:Msg) (a a2:Option Addr) (c c2:Nat) :
  yO Tryz.prog w0 93 [.agg (xI m (.slice a m.entries.length c) (.slice a2 m.data.length c2)).toArray] 0 (fun r h'=>r=.bool (gK m)∧0=h'):=by
 refine zN Tryz.func93 M Tryz.ntmps93 Tryz.results93 M fun fr=>?_
 repeat (first|refine zF ?_|refine zB ?_|refine zE ?_|refine zK M M M ?_|refine zY M M M M M ?_|refine yM M M M M M ?_|refine xN M (c:=[_,_,_,_,_,_,_,_,_,_,_,_,_,_,_,_,_]) M M M (fun _=>?_))
 rename_i b1
 refine zX M M (zQ M M M) (gL w0 m.kind) ?_
 rintro _ _ ⟨rfl,rfl⟩
 skip
 refine kF M M (ev_range M) ?_
 rintro _ _ ⟨b10,rfl,rfl⟩
 repeat (first|refine zR ?_|refine zE ?_)
 have hin:=fldsM_in m.kind
 have h7:=fldsM_len m.kind
 generalize hl:jB m.kind=l at hin h7
 refine yN l.length (fun k g L=>∃ (a a2:Option Addr) (c c2:Nat) (R:Hp),g=[(1,.pointer (some ⟨b1,0,none⟩)),(10,.pointer (some ⟨b10,0,none⟩))] ∧
  L=pt b10 (.stringIter ⟨l.toArray⟩ k)+(pt b1 (.cells (xI (clrs m (l.take k)) (.slice a (clrs m (l.take k)).entries.length c) (.slice a2 (clrs m (l.take k)).data.length c2)).toArray 55 (0,0))+fr)+R) _ ⟨a,a2,c,c2,0,rfl,by simp only [yA,qW,List.take_zero]; rfl⟩ zsb ?_
 rintro k g L hk ⟨a,a2,c,c2,R,rfl,rfl⟩
 refine zaH ?_
 by_cases hx:k<l.length
 ·have hfm:=hin _ (List.getElem_mem hx)
  refine kF M M (ev_next M hx (letter_small hfm) (by omega)) ?_
  rintro _ _ ⟨rfl,rfl⟩
  refine zaZ ?_
  have hct:=clrs_take m hx
  generalize hm1:clrs m (l.take k)=m1 at hct
  have hlc:=letter_cases hfm
  generalize hfe:l[k]=fe at hct hlc
  rcases hlc with rfl|rfl|rfl|rfl|rfl|rfl|rfl|rfl|rfl|rfl|rfl|rfl|rfl|rfl
  ·skip
   refine kD M M (yK M M) (by decide) ?_
   refine zdM ?_
   exact ⟨hx,_,zsb,a,a2,c,c2,_,rfl,by
    rw [hct,show clr m1 (UInt8.toNat 111)={ m1 with ok:=false } from rfl]
    show _=pt b10 _+(pt b1 (.cells (xI { m1 with ok:=false } (.slice a m1.entries.length c) (.slice a2 m1.data.length c2)).toArray _ (0,0))+fr)+_
    exact yJ.out⟩
  ·skip
   refine yP M M (yK M M) (by decide) ?_
   refine zaA ?_
   refine kD M M (yK M M) (by decide) ?_
   refine zdM ?_
   exact ⟨hx,_,zsb,none,a2,0,c2,_,rfl,by
    rw [hct,show clr m1 (UInt8.toNat 101)={ m1 with entries:=[] } from rfl]
    show _=pt b10 _+(pt b1 (.cells (xI { m1 with entries:=[] } (.slice none 0 0) (.slice a2 m1.data.length c2)).toArray _ (0,0))+fr)+_
    exact yJ.out⟩
  ·skip
   refine yP M M (yK M M) (by decide) ?_
   refine zaA ?_
   refine yP M M (yK M M) (by decide) ?_
   refine zaA ?_
   refine kD M M (yK M M) (by decide) ?_
   refine zdM ?_
   exact ⟨hx,_,zsb,a,none,c,0,_,rfl,by
    rw [hct,show clr m1 (UInt8.toNat 100)={ m1 with data:=[] } from rfl]
    show _=pt b10 _+(pt b1 (.cells (xI { m1 with data:=[] } (.slice a m1.entries.length c) (.slice none 0 0)).toArray _ (0,0))+fr)+_
    exact yJ.out⟩
  ·skip
   refine yP M M (yK M M) (by decide) ?_
   refine zaA ?_
   refine yP M M (yK M M) (by decide) ?_
   refine zaA ?_
   refine yP M M (yK M M) (by decide) ?_
   refine zaG ?_
   refine zX M M (zQ M M M) (yV w0 b1 _) ?_
   rintro _ _ ⟨rfl,rfl⟩
   rw [show jX (UInt8.toNat 103)=3 from rfl]
   refine zbK ?_
   exact ⟨hx,_,zsb,a,a2,c,c2,_,rfl,by
    rw [hct,show clr m1 (UInt8.toNat 103)={ m1 with group:=0 } from rfl]
    show _=pt b10 _+(pt b1 (.cells (xI { m1 with group:=0 } (.slice a m1.entries.length c) (.slice a2 m1.data.length c2)).toArray _ (0,0))+fr)+_
    exact yJ.out⟩
  ·skip
   refine yP M M (yK M M) (by decide) ?_
   refine zaA ?_
   refine yP M M (yK M M) (by decide) ?_
   refine zaA ?_
   refine yP M M (yK M M) (by decide) ?_
   refine zaG ?_
   refine zX M M (zQ M M M) (yV w0 b1 _) ?_
   rintro _ _ ⟨rfl,rfl⟩
   rw [show jX (UInt8.toNat 116)=4 from rfl]
   refine zbK ?_
   exact ⟨hx,_,zsb,a,a2,c,c2,_,rfl,by
    rw [hct,show clr m1 (UInt8.toNat 116)={ m1 with term:=0 } from rfl]
    show _=pt b10 _+(pt b1 (.cells (xI { m1 with term:=0 } (.slice a m1.entries.length c) (.slice a2 m1.data.length c2)).toArray _ (0,0))+fr)+_
    exact yJ.out⟩
  ·skip
   refine yP M M (yK M M) (by decide) ?_
   refine zaA ?_
   refine yP M M (yK M M) (by decide) ?_
   refine zaA ?_
   refine yP M M (yK M M) (by decide) ?_
   refine zaG ?_
   refine zX M M (zQ M M M) (yV w0 b1 _) ?_
   rintro _ _ ⟨rfl,rfl⟩
   rw [show jX (UInt8.toNat 105)=5 from rfl]
   refine zbK ?_
   exact ⟨hx,_,zsb,a,a2,c,c2,_,rfl,by
    rw [hct,show clr m1 (UInt8.toNat 105)={ m1 with index:=0 } from rfl]
    show _=pt b10 _+(pt b1 (.cells (xI { m1 with index:=0 } (.slice a m1.entries.length c) (.slice a2 m1.data.length c2)).toArray _ (0,0))+fr)+_
    exact yJ.out⟩
  ·skip
   refine yP M M (yK M M) (by decide) ?_
   refine zaA ?_
   refine yP M M (yK M M) (by decide) ?_
   refine zaA ?_
   refine yP M M (yK M M) (by decide) ?_
   refine zaG ?_
   refine zX M M (zQ M M M) (yV w0 b1 _) ?_
   rintro _ _ ⟨rfl,rfl⟩
   rw [show jX (UInt8.toNat 112)=6 from rfl]
   refine zbK ?_
   exact ⟨hx,_,zsb,a,a2,c,c2,_,rfl,by
    rw [hct,show clr m1 (UInt8.toNat 112)={ m1 with prev:=0 } from rfl]
    show _=pt b10 _+(pt b1 (.cells (xI { m1 with prev:=0 } (.slice a m1.entries.length c) (.slice a2 m1.data.length c2)).toArray _ (0,0))+fr)+_
    exact yJ.out⟩
  ·skip
   refine yP M M (yK M M) (by decide) ?_
   refine zaA ?_
   refine yP M M (yK M M) (by decide) ?_
   refine zaA ?_
   refine yP M M (yK M M) (by decide) ?_
   refine zaG ?_
   refine zX M M (zQ M M M) (yV w0 b1 _) ?_
   rintro _ _ ⟨rfl,rfl⟩
   rw [show jX (UInt8.toNat 99)=7 from rfl]
   refine zbK ?_
   exact ⟨hx,_,zsb,a,a2,c,c2,_,rfl,by
    rw [hct,show clr m1 (UInt8.toNat 99)={ m1 with commit:=0 } from rfl]
    show _=pt b10 _+(pt b1 (.cells (xI { m1 with commit:=0 } (.slice a m1.entries.length c) (.slice a2 m1.data.length c2)).toArray _ (0,0))+fr)+_
    exact yJ.out⟩
  ·skip
   refine yP M M (yK M M) (by decide) ?_
   refine zaA ?_
   refine yP M M (yK M M) (by decide) ?_
   refine zaA ?_
   refine yP M M (yK M M) (by decide) ?_
   refine zaG ?_
   refine zX M M (zQ M M M) (yV w0 b1 _) ?_
   rintro _ _ ⟨rfl,rfl⟩
   rw [show jX (UInt8.toNat 114)=8 from rfl]
   refine zbK ?_
   exact ⟨hx,_,zsb,a,a2,c,c2,_,rfl,by
    rw [hct,show clr m1 (UInt8.toNat 114)={ m1 with round:=0 } from rfl]
    show _=pt b10 _+(pt b1 (.cells (xI { m1 with round:=0 } (.slice a m1.entries.length c) (.slice a2 m1.data.length c2)).toArray _ (0,0))+fr)+_
    exact yJ.out⟩
  ·skip
   refine yP M M (yK M M) (by decide) ?_
   refine zaA ?_
   refine yP M M (yK M M) (by decide) ?_
   refine zaA ?_
   refine yP M M (yK M M) (by decide) ?_
   refine zaG ?_
   refine zX M M (zQ M M M) (yV w0 b1 _) ?_
   rintro _ _ ⟨rfl,rfl⟩
   rw [show jX (UInt8.toNat 115)=13 from rfl]
   refine zbK ?_
   exact ⟨hx,_,zsb,a,a2,c,c2,_,rfl,by
    rw [hct,show clr m1 (UInt8.toNat 115)={ m1 with seq:=0 } from rfl]
    show _=pt b10 _+(pt b1 (.cells (xI { m1 with seq:=0 } (.slice a m1.entries.length c) (.slice a2 m1.data.length c2)).toArray _ (0,0))+fr)+_
    exact yJ.out⟩
  ·skip
   refine yP M M (yK M M) (by decide) ?_
   refine zaA ?_
   refine yP M M (yK M M) (by decide) ?_
   refine zaA ?_
   refine yP M M (yK M M) (by decide) ?_
   refine zaG ?_
   refine zX M M (zQ M M M) (yV w0 b1 _) ?_
   rintro _ _ ⟨rfl,rfl⟩
   rw [show jX (UInt8.toNat 120)=9 from rfl]
   refine zbK ?_
   exact ⟨hx,_,zsb,a,a2,c,c2,_,rfl,by
    rw [hct,show clr m1 (UInt8.toNat 120)={ m1 with txn:=0 } from rfl]
    show _=pt b10 _+(pt b1 (.cells (xI { m1 with txn:=0 } (.slice a m1.entries.length c) (.slice a2 m1.data.length c2)).toArray _ (0,0))+fr)+_
    exact yJ.out⟩
  ·skip
   refine yP M M (yK M M) (by decide) ?_
   refine zaA ?_
   refine yP M M (yK M M) (by decide) ?_
   refine zaA ?_
   refine yP M M (yK M M) (by decide) ?_
   refine zaG ?_
   refine zX M M (zQ M M M) (yV w0 b1 _) ?_
   rintro _ _ ⟨rfl,rfl⟩
   rw [show jX (UInt8.toNat 97)=10 from rfl]
   refine zbK ?_
   exact ⟨hx,_,zsb,a,a2,c,c2,_,rfl,by
    rw [hct,show clr m1 (UInt8.toNat 97)={ m1 with part:=0 } from rfl]
    show _=pt b10 _+(pt b1 (.cells (xI { m1 with part:=0 } (.slice a m1.entries.length c) (.slice a2 m1.data.length c2)).toArray _ (0,0))+fr)+_
    exact yJ.out⟩
  ·skip
   refine yP M M (yK M M) (by decide) ?_
   refine zaA ?_
   refine yP M M (yK M M) (by decide) ?_
   refine zaA ?_
   refine yP M M (yK M M) (by decide) ?_
   refine zaG ?_
   refine zX M M (zQ M M M) (yV w0 b1 _) ?_
   rintro _ _ ⟨rfl,rfl⟩
   rw [show jX (UInt8.toNat 98)=11 from rfl]
   refine zbK ?_
   exact ⟨hx,_,zsb,a,a2,c,c2,_,rfl,by
    rw [hct,show clr m1 (UInt8.toNat 98)={ m1 with ballot:=0 } from rfl]
    show _=pt b10 _+(pt b1 (.cells (xI { m1 with ballot:=0 } (.slice a m1.entries.length c) (.slice a2 m1.data.length c2)).toArray _ (0,0))+fr)+_
    exact yJ.out⟩
  ·skip
   refine yP M M (yK M M) (by decide) ?_
   refine zaA ?_
   refine yP M M (yK M M) (by decide) ?_
   refine zaA ?_
   refine yP M M (yK M M) (by decide) ?_
   refine zaG ?_
   refine zX M M (zQ M M M) (yV w0 b1 _) ?_
   rintro _ _ ⟨rfl,rfl⟩
   rw [show jX (UInt8.toNat 118)=12 from rfl]
   refine zbK ?_
   exact ⟨hx,_,zsb,a,a2,c,c2,_,rfl,by
    rw [hct,show clr m1 (UInt8.toNat 118)={ m1 with value:=0 } from rfl]
    show _=pt b10 _+(pt b1 (.cells (xI { m1 with value:=0 } (.slice a m1.entries.length c) (.slice a2 m1.data.length c2)).toArray _ (0,0))+fr)+_
    exact yJ.out⟩
 have hkl:k=l.length:=by omega
 subst hkl
 rw [List.take_length]
 generalize hm1:clrs m l=m1
 refine kF M M (ev_next_end M (by omega)) ?_
 rintro _ _ ⟨rfl,rfl⟩
 refine zbB ?_
 refine kF M M (ev_range (l:=wN) M) ?_
 rintro _ _ ⟨b27,rfl,rfl⟩
 repeat (first|refine zR ?_|refine zE ?_)
 have hF:gK m=(wN.any (fun f=>decide (getL m1 f.toNat≠0))||(m1.ok||(decide (0<m1.entries.length)||decide (0<m1.data.length)))):=by unfold gK; rw [hl,hm1]
 have h11:wN.length=11:=rfl
 refine yN 11 (fun k g L=>∃ R:Hp,g=[(1,.pointer (some ⟨b1,0,none⟩)),(27,.pointer (some ⟨b27,0,none⟩))]∧(∀ f∈wN.take k,getL m1 f.toNat=0) ∧
  L=pt b27 (.stringIter ⟨wN.toArray⟩ k)+(pt b1 (.cells (xI m1 (.slice a m1.entries.length c) (.slice a2 m1.data.length c2)).toArray 55 (0,0))+fr)+R) _ ⟨_,rfl,by simp,yJ.out⟩ zsb ?_
 rintro k g L hk ⟨R,rfl,hz,rfl⟩
 refine zaH ?_
 by_cases hx:k<wN.length
 ·have hfn:wN[k]∈wN:=List.getElem_mem hx
  have hfm:=(by decide:∀ f∈wN,f∈letters) _ hfn
  refine kF M M (ev_next M hx (letter_small hfm) (by omega)) ?_
  rintro _ _ ⟨rfl,rfl⟩
  refine zaZ ?_
  refine zX M M (zQ M M M) (yV w0 b1 _) ?_
  rintro _ _ ⟨rfl,rfl⟩
  have hyes:getL m1 wN[k].toNat≠0→gK m=true:=fun h=>by
   rw [hF,Bool.or_eq_true]
   exact .inl (List.any_eq_true.2 ⟨_,hfn,by simpa using h⟩)
  have hno:getL m1 wN[k].toNat=0→∀ f∈wN.take (k+1),getL m1 f.toNat=0:=fun h f hf=>by
   rw [List.take_succ_eq_append_getElem hx,List.mem_append,List.mem_singleton] at hf
   rcases hf with hf|rfl
   ·exact hz f hf
   ·exact h
  have hn:=numbers_cases hfn
  generalize wN[k]=fe at hyes hno hn
  rcases hn with rfl|rfl|rfl|rfl|rfl|rfl|rfl|rfl|rfl|rfl|rfl
  ·rw [show jX (UInt8.toNat 103)=3 from rfl]
   refine zaM ?_
   refine yF M M (xZ M M) (fun q=>?_) (fun q=>?_)
   ·refine zaB ?_
    exact ⟨[_],0,_,⟨rfl,trivial⟩,⟨by rw [hyes q]; rfl,rfl⟩,yJ.out⟩
   ·refine zaX ?_
    exact ⟨by omega,_,zsb,_,rfl,hno (Decidable.not_not.1 q),yJ.out⟩
  ·rw [show jX (UInt8.toNat 116)=4 from rfl]
   refine zaM ?_
   refine yF M M (xZ M M) (fun q=>?_) (fun q=>?_)
   ·refine zaB ?_
    exact ⟨[_],0,_,⟨rfl,trivial⟩,⟨by rw [hyes q]; rfl,rfl⟩,yJ.out⟩
   ·refine zaX ?_
    exact ⟨by omega,_,zsb,_,rfl,hno (Decidable.not_not.1 q),yJ.out⟩
  ·rw [show jX (UInt8.toNat 105)=5 from rfl]
   refine zaM ?_
   refine yF M M (xZ M M) (fun q=>?_) (fun q=>?_)
   ·refine zaB ?_
    exact ⟨[_],0,_,⟨rfl,trivial⟩,⟨by rw [hyes q]; rfl,rfl⟩,yJ.out⟩
   ·refine zaX ?_
    exact ⟨by omega,_,zsb,_,rfl,hno (Decidable.not_not.1 q),yJ.out⟩
  ·rw [show jX (UInt8.toNat 112)=6 from rfl]
   refine zaM ?_
   refine yF M M (xZ M M) (fun q=>?_) (fun q=>?_)
   ·refine zaB ?_
    exact ⟨[_],0,_,⟨rfl,trivial⟩,⟨by rw [hyes q]; rfl,rfl⟩,yJ.out⟩
   ·refine zaX ?_
    exact ⟨by omega,_,zsb,_,rfl,hno (Decidable.not_not.1 q),yJ.out⟩
  ·rw [show jX (UInt8.toNat 99)=7 from rfl]
   refine zaM ?_
   refine yF M M (xZ M M) (fun q=>?_) (fun q=>?_)
   ·refine zaB ?_
    exact ⟨[_],0,_,⟨rfl,trivial⟩,⟨by rw [hyes q]; rfl,rfl⟩,yJ.out⟩
   ·refine zaX ?_
    exact ⟨by omega,_,zsb,_,rfl,hno (Decidable.not_not.1 q),yJ.out⟩
  ·rw [show jX (UInt8.toNat 114)=8 from rfl]
   refine zaM ?_
   refine yF M M (xZ M M) (fun q=>?_) (fun q=>?_)
   ·refine zaB ?_
    exact ⟨[_],0,_,⟨rfl,trivial⟩,⟨by rw [hyes q]; rfl,rfl⟩,yJ.out⟩
   ·refine zaX ?_
    exact ⟨by omega,_,zsb,_,rfl,hno (Decidable.not_not.1 q),yJ.out⟩
  ·rw [show jX (UInt8.toNat 115)=13 from rfl]
   refine zaM ?_
   refine yF M M (xZ M M) (fun q=>?_) (fun q=>?_)
   ·refine zaB ?_
    exact ⟨[_],0,_,⟨rfl,trivial⟩,⟨by rw [hyes q]; rfl,rfl⟩,yJ.out⟩
   ·refine zaX ?_
    exact ⟨by omega,_,zsb,_,rfl,hno (Decidable.not_not.1 q),yJ.out⟩
  ·rw [show jX (UInt8.toNat 120)=9 from rfl]
   refine zaM ?_
   refine yF M M (xZ M M) (fun q=>?_) (fun q=>?_)
   ·refine zaB ?_
    exact ⟨[_],0,_,⟨rfl,trivial⟩,⟨by rw [hyes q]; rfl,rfl⟩,yJ.out⟩
   ·refine zaX ?_
    exact ⟨by omega,_,zsb,_,rfl,hno (Decidable.not_not.1 q),yJ.out⟩
  ·rw [show jX (UInt8.toNat 97)=10 from rfl]
   refine zaM ?_
   refine yF M M (xZ M M) (fun q=>?_) (fun q=>?_)
   ·refine zaB ?_
    exact ⟨[_],0,_,⟨rfl,trivial⟩,⟨by rw [hyes q]; rfl,rfl⟩,yJ.out⟩
   ·refine zaX ?_
    exact ⟨by omega,_,zsb,_,rfl,hno (Decidable.not_not.1 q),yJ.out⟩
  ·rw [show jX (UInt8.toNat 98)=11 from rfl]
   refine zaM ?_
   refine yF M M (xZ M M) (fun q=>?_) (fun q=>?_)
   ·refine zaB ?_
    exact ⟨[_],0,_,⟨rfl,trivial⟩,⟨by rw [hyes q]; rfl,rfl⟩,yJ.out⟩
   ·refine zaX ?_
    exact ⟨by omega,_,zsb,_,rfl,hno (Decidable.not_not.1 q),yJ.out⟩
  ·rw [show jX (UInt8.toNat 118)=12 from rfl]
   refine zaM ?_
   refine yF M M (xZ M M) (fun q=>?_) (fun q=>?_)
   ·refine zaB ?_
    exact ⟨[_],0,_,⟨rfl,trivial⟩,⟨by rw [hyes q]; rfl,rfl⟩,yJ.out⟩
   ·refine zaX ?_
    exact ⟨by omega,_,zsb,_,rfl,hno (Decidable.not_not.1 q),yJ.out⟩
 have hk11:k=11:=by omega
 subst hk11
 rw [List.take_of_length_le (by omega)] at hz
 have hany:wN.any (fun f=>decide (getL m1 f.toNat≠0))=false:=by
  rw [List.any_eq_false]; intro f hf; simpa using hz f hf
 rw [hany,Bool.false_or] at hF
 refine kF M M (ev_next_end M (by omega)) ?_
 rintro _ _ ⟨rfl,rfl⟩
 rw [hF]
 clear hF hany hz hm1
 obtain ⟨ok,hok⟩:∃ ok,m1.ok=ok:=⟨_,rfl⟩
 simp only [xI]
 rw [hok]
 cases ok
 ·repeat (first|refine zF ?_|refine yC ?_|refine zB ?_|refine zE ?_|refine zK M M M ?_|refine zY M M M M M ?_|refine yM M M M M M ?_|refine yT M M M ?_|refine zI M ?_)
  refine yF M M (kB M M) (fun q=>?_) (fun q=>?_)
  ·refine zbJ ?_
   exact ⟨[_],0,_,⟨rfl,trivial⟩,⟨by rw [decide_eq_true (show 0<m1.entries.length by omega)]; rfl,rfl⟩,yJ.out⟩
  ·refine zbW ?_
   refine yF M M (kB M M) (fun q2=>?_) (fun q2=>?_)
   ·refine zaE ?_
    exact ⟨[_],0,_,⟨rfl,trivial⟩,⟨by rw [decide_eq_true (show 0<m1.data.length by omega),decide_eq_false (show ¬ 0<m1.entries.length by omega)]; rfl,rfl⟩,yJ.out⟩
   ·refine zaE ?_
    exact ⟨[_],0,_,⟨rfl,trivial⟩,⟨by rw [decide_eq_false (show ¬ 0<m1.data.length by omega),decide_eq_false (show ¬ 0<m1.entries.length by omega)]; rfl,rfl⟩,yJ.out⟩
 ·repeat (first|refine zF ?_|refine yC ?_|refine zB ?_|refine zE ?_|refine zK M M M ?_|refine zY M M M M M ?_|refine yM M M M M M ?_|refine xE M M ?_|refine zM ?_|refine zI M ?_)
  exact ⟨[_],0,_,⟨rfl,trivial⟩,⟨rfl,rfl⟩,yJ.out⟩
def inB (n lo hi:Int):Bool:=decide (lo≤n∧n≤hi)
theorem jJ (w0:World) (n lo hi:Int):yO Tryz.prog w0 173 [.int .i64 n,.int .i64 lo,.int .i64 hi] 0 (fun r h'=>r=.bool (inB n lo hi)∧0=h'):=by
 refine zN Tryz.func173 M Tryz.ntmps173 Tryz.results173 M fun fr=>?_
 refine zaC ?_
 refine yF M M (kQ M M) (fun n1=>?_) (fun n1=>?_)
 ·repeat (refine zK M M M ?_)
  refine yG M M (dD M M) ?_
  refine zaE ?_
  exact ⟨[_],0,_,⟨rfl,trivial⟩,⟨congrArg Value.bool (decide_eq_decide.2 ⟨fun h=>⟨by omega,h⟩,fun h=>h.2⟩),rfl⟩,yJ.out⟩
 ·refine zbJ ?_
  exact ⟨[_],0,_,⟨rfl,trivial⟩,⟨congrArg Value.bool (decide_eq_false (fun h=>n1 h.1)).symm,rfl⟩,yJ.out⟩
def loB (f:Nat):Int:=if f=120∨f=97 then 1 else 0
def hiB (f:Nat):Int:=if f=103∨f=97 then 4 else if f=118 then 2 else 1099511627776
def fineL (m:Msg) (f:Nat):Bool:=decide (f=111∨f=101∨f=100)||inB (getL m f) (loB f) (hiB f)
def fineE (e:Ent):Bool:=inB e.term 0 1099511627776&&inB e.kind 0 2
def qB (m:Msg):Bool:=(inB m.src 1 199&&inB m.dst 1 199)&&((jB m.kind).all (fun f=>fineL m f.toNat)&&m.entries.all fineE)
theorem all_take {α:Type} {p:α→Bool} {l:List α} {k:Nat} (h:k<l.length) (ht:(l.take k).all p=true) (hp:p l[k]=true):(l.take (k+1)).all p=true:=by
 rw [List.take_succ_eq_append_getElem h,List.all_append,ht]; simpa using hp
theorem all_false {α:Type} {p:α→Bool} {l:List α} {k:Nat} (h:k<l.length) (hp:p l[k]=false):l.all p=false:=by
 rw [List.all_eq_false]; exact ⟨_,List.getElem_mem h,by simpa using hp⟩
theorem zbF {G G' : Prop} (h : G') (f : Zh G'→G:=by intro h; (repeat (first|refine zE ?_|refine zK M M M ?_|refine zP ?_|refine zI M ?_)); exact h.o) : G:=f ⟨h⟩
theorem zbS {G G' : Prop} (h : G') (f : Zh G'→G:=by intro h; (repeat (first|refine zF ?_|refine zB ?_|refine zE ?_|refine zK M M M ?_|refine xE M M ?_|refine zM ?_|refine zJ M ?_)); exact h.o) : G:=f ⟨h⟩
theorem ranged_spec (w0:World) (X:Hp) (m:Msg) (a a2:Option Addr) (c c2:Nat) (he:RdL w0 X (.slice a m.entries.length c) m.entries) (hl:m.entries.length≤1000000000) :
  yO Tryz.prog w0 94 [.agg (xI m (.slice a m.entries.length c) (.slice a2 m.data.length c2)).toArray] X (fun r h'=>r=.bool (qB m)∧X=h'):=by
 refine zN Tryz.func94 M Tryz.ntmps94 Tryz.results94 M fun fr=>?_
 repeat (first|refine zF ?_|refine zB ?_|refine zE ?_|refine zK M M M ?_|refine zY M M M M M ?_|refine yM M M M M M ?_|refine xN M (c:=[_,_,_,_,_,_,_,_,_,_,_,_,_,_,_,_,_]) M M M (fun _=>?_))
 rename_i b1
 refine zX M M (zQ M M M) (jJ w0 m.src 1 199) ?_
 rintro _ _ ⟨rfl,rfl⟩
 cases h1:inB m.src 1 199
 ·refine zbS ?_
  exact ⟨[_],X,_,⟨rfl,trivial⟩,⟨by unfold qB; rw [h1]; rfl,rfl⟩,yJ.out⟩
 refine zaN ?_
 refine zX M M (zQ M M M) (jJ w0 m.dst 1 199) ?_
 rintro _ _ ⟨rfl,rfl⟩
 cases h2:inB m.dst 1 199
 ·refine zaB ?_
  exact ⟨[_],X,_,⟨rfl,trivial⟩,⟨by unfold qB; rw [h1,h2]; rfl,rfl⟩,yJ.out⟩
 refine zcZ ?_
 refine zX M M (zQ M M M) (gL w0 m.kind) ?_
 rintro _ _ ⟨rfl,rfl⟩
 skip
 refine kF M M (ev_range M) ?_
 rintro _ _ ⟨b22,rfl,rfl⟩
 repeat (first|refine zR ?_|refine zE ?_)
 have hF:qB m=((jB m.kind).all (fun f=>fineL m f.toNat)&&m.entries.all fineE):=by unfold qB; rw [h1,h2]; rfl
 have hin:=fldsM_in m.kind
 have h7:=fldsM_len m.kind
 generalize hl:jB m.kind=l at hin h7 hF
 clear h1 h2
 refine yN l.length (fun k g L=>∃ R:Hp,g=[(1,.pointer (some ⟨b1,0,none⟩)),(22,.pointer (some ⟨b22,0,none⟩))]∧(l.take k).all (fun f=>fineL m f.toNat)=true ∧
  L=pt b22 (.stringIter ⟨l.toArray⟩ k)+(pt b1 (.cells (xI m (.slice a m.entries.length c) (.slice a2 m.data.length c2)).toArray 55 (0,0))+(X+fr))+R) _ ⟨0,rfl,rfl,by simp only [yA,qW]⟩ zsb ?_
 rintro k g L hk ⟨R,rfl,hall,rfl⟩
 refine zaH ?_
 by_cases hx:k<l.length
 ·have hfm:=hin _ (List.getElem_mem hx)
  refine kF M M (ev_next M hx (letter_small hfm) (by omega)) ?_
  rintro _ _ ⟨rfl,rfl⟩
  refine zaZ ?_
  have hyes:fineL m l[k].toNat=true→(l.take (k+1)).all (fun f=>fineL m f.toNat)=true:=fun h=>all_take (p:=fun f:UInt8=>fineL m f.toNat) hx hall h
  have hno:fineL m l[k].toNat=false→qB m=false:=fun h=>by rw [hF,all_false (p:=fun f:UInt8=>fineL m f.toNat) hx h]; rfl
  have hlc:=letter_cases hfm
  generalize l[k]=fe at hyes hno hlc
  rcases hlc with rfl|rfl|rfl|rfl|rfl|rfl|rfl|rfl|rfl|rfl|rfl|rfl|rfl|rfl
  ·skip
   refine kD M M (yK M M) (by decide) ?_
   repeat (first|refine yC ?_|refine zE ?_|refine zK M M M ?_|refine zP ?_|refine zJ M ?_)
   exact ⟨hx,_,zsb,_,rfl,hyes M,yJ.out⟩
  ·skip
   refine yP M M (yK M M) (by decide) ?_
   refine zaA ?_
   refine kD M M (yK M M) (by decide) ?_
   repeat (first|refine yC ?_|refine zE ?_|refine zK M M M ?_|refine zP ?_|refine zJ M ?_)
   exact ⟨hx,_,zsb,_,rfl,hyes M,yJ.out⟩
  ·skip
   refine yP M M (yK M M) (by decide) ?_
   refine zaA ?_
   refine yP M M (yK M M) (by decide) ?_
   refine zaG ?_
   refine kD M M (yK M M) (by decide) ?_
   repeat (first|refine yC ?_|refine zE ?_|refine zK M M M ?_|refine zJ M ?_)
   exact ⟨hx,_,zsb,_,rfl,hyes M,yJ.out⟩
  ·skip
   refine yP M M (yK M M) (by decide) ?_
   refine zaA ?_
   refine yP M M (yK M M) (by decide) ?_
   refine zaG ?_
   refine yP M M (yK M M) (by decide) ?_
   refine zaA ?_
   refine kD M M (yK M M) (by decide) ?_
   refine zaY ?_
   refine zX M M (zQ M M M) (yV w0 b1 _) ?_
   rintro _ _ ⟨rfl,rfl⟩
   rw [show jX (UInt8.toNat 103)=3 from rfl]
   refine zaM ?_
   refine zX M M (zQ M M M) (jJ w0 m.group (loB 103) (hiB 103)) ?_
   rintro _ _ ⟨rfl,rfl⟩
   cases hb:inB m.group (loB 103) (hiB 103)
   ·refine zaB ?_
    exact ⟨[_],X,_,⟨rfl,trivial⟩,⟨by rw [hno (by show (false||inB m.group (loB 103) (hiB 103))=false; rw [hb]; rfl)]; rfl,rfl⟩,yJ.out⟩
   ·refine zbF ?_
    exact ⟨hx,_,zsb,_,rfl,hyes (by show (false||inB m.group (loB 103) (hiB 103))=true; rw [hb]; rfl),yJ.out⟩
  ·skip
   refine yP M M (yK M M) (by decide) ?_
   refine zaA ?_
   refine yP M M (yK M M) (by decide) ?_
   refine zaG ?_
   refine yP M M (yK M M) (by decide) ?_
   refine zaA ?_
   refine yP M M (yK M M) (by decide) ?_
   refine zaA ?_
   refine yP M M (yK M M) (by decide) ?_
   refine zaA ?_
   refine yP M M (yK M M) (by decide) ?_
   refine zaA ?_
   refine yP M M (yK M M) (by decide) ?_
   refine zaW ?_
   refine zX M M (zQ M M M) (yV w0 b1 _) ?_
   rintro _ _ ⟨rfl,rfl⟩
   rw [show jX (UInt8.toNat 116)=4 from rfl]
   refine zaM ?_
   refine zX M M (zQ M M M) (jJ w0 m.term (loB 116) (hiB 116)) ?_
   rintro _ _ ⟨rfl,rfl⟩
   cases hb:inB m.term (loB 116) (hiB 116)
   ·refine zaB ?_
    exact ⟨[_],X,_,⟨rfl,trivial⟩,⟨by rw [hno (by show (false||inB m.term (loB 116) (hiB 116))=false; rw [hb]; rfl)]; rfl,rfl⟩,yJ.out⟩
   ·refine zbF ?_
    exact ⟨hx,_,zsb,_,rfl,hyes (by show (false||inB m.term (loB 116) (hiB 116))=true; rw [hb]; rfl),yJ.out⟩
  ·skip
   refine yP M M (yK M M) (by decide) ?_
   refine zaA ?_
   refine yP M M (yK M M) (by decide) ?_
   refine zaG ?_
   refine yP M M (yK M M) (by decide) ?_
   refine zaA ?_
   refine yP M M (yK M M) (by decide) ?_
   refine zaA ?_
   refine yP M M (yK M M) (by decide) ?_
   refine zaA ?_
   refine yP M M (yK M M) (by decide) ?_
   refine zaA ?_
   refine yP M M (yK M M) (by decide) ?_
   refine zaW ?_
   refine zX M M (zQ M M M) (yV w0 b1 _) ?_
   rintro _ _ ⟨rfl,rfl⟩
   rw [show jX (UInt8.toNat 105)=5 from rfl]
   refine zaM ?_
   refine zX M M (zQ M M M) (jJ w0 m.index (loB 105) (hiB 105)) ?_
   rintro _ _ ⟨rfl,rfl⟩
   cases hb:inB m.index (loB 105) (hiB 105)
   ·refine zaB ?_
    exact ⟨[_],X,_,⟨rfl,trivial⟩,⟨by rw [hno (by show (false||inB m.index (loB 105) (hiB 105))=false; rw [hb]; rfl)]; rfl,rfl⟩,yJ.out⟩
   ·refine zbF ?_
    exact ⟨hx,_,zsb,_,rfl,hyes (by show (false||inB m.index (loB 105) (hiB 105))=true; rw [hb]; rfl),yJ.out⟩
  ·skip
   refine yP M M (yK M M) (by decide) ?_
   refine zaA ?_
   refine yP M M (yK M M) (by decide) ?_
   refine zaG ?_
   refine yP M M (yK M M) (by decide) ?_
   refine zaA ?_
   refine yP M M (yK M M) (by decide) ?_
   refine zaA ?_
   refine yP M M (yK M M) (by decide) ?_
   refine zaA ?_
   refine yP M M (yK M M) (by decide) ?_
   refine zaA ?_
   refine yP M M (yK M M) (by decide) ?_
   refine zaW ?_
   refine zX M M (zQ M M M) (yV w0 b1 _) ?_
   rintro _ _ ⟨rfl,rfl⟩
   rw [show jX (UInt8.toNat 112)=6 from rfl]
   refine zaM ?_
   refine zX M M (zQ M M M) (jJ w0 m.prev (loB 112) (hiB 112)) ?_
   rintro _ _ ⟨rfl,rfl⟩
   cases hb:inB m.prev (loB 112) (hiB 112)
   ·refine zaB ?_
    exact ⟨[_],X,_,⟨rfl,trivial⟩,⟨by rw [hno (by show (false||inB m.prev (loB 112) (hiB 112))=false; rw [hb]; rfl)]; rfl,rfl⟩,yJ.out⟩
   ·refine zbF ?_
    exact ⟨hx,_,zsb,_,rfl,hyes (by show (false||inB m.prev (loB 112) (hiB 112))=true; rw [hb]; rfl),yJ.out⟩
  ·skip
   refine yP M M (yK M M) (by decide) ?_
   refine zaA ?_
   refine yP M M (yK M M) (by decide) ?_
   refine zaG ?_
   refine yP M M (yK M M) (by decide) ?_
   refine zaA ?_
   refine yP M M (yK M M) (by decide) ?_
   refine zaA ?_
   refine yP M M (yK M M) (by decide) ?_
   refine zaA ?_
   refine yP M M (yK M M) (by decide) ?_
   refine zaA ?_
   refine yP M M (yK M M) (by decide) ?_
   refine zaW ?_
   refine zX M M (zQ M M M) (yV w0 b1 _) ?_
   rintro _ _ ⟨rfl,rfl⟩
   rw [show jX (UInt8.toNat 99)=7 from rfl]
   refine zaM ?_
   refine zX M M (zQ M M M) (jJ w0 m.commit (loB 99) (hiB 99)) ?_
   rintro _ _ ⟨rfl,rfl⟩
   cases hb:inB m.commit (loB 99) (hiB 99)
   ·refine zaB ?_
    exact ⟨[_],X,_,⟨rfl,trivial⟩,⟨by rw [hno (by show (false||inB m.commit (loB 99) (hiB 99))=false; rw [hb]; rfl)]; rfl,rfl⟩,yJ.out⟩
   ·refine zbF ?_
    exact ⟨hx,_,zsb,_,rfl,hyes (by show (false||inB m.commit (loB 99) (hiB 99))=true; rw [hb]; rfl),yJ.out⟩
  ·skip
   refine yP M M (yK M M) (by decide) ?_
   refine zaA ?_
   refine yP M M (yK M M) (by decide) ?_
   refine zaG ?_
   refine yP M M (yK M M) (by decide) ?_
   refine zaA ?_
   refine yP M M (yK M M) (by decide) ?_
   refine zaA ?_
   refine yP M M (yK M M) (by decide) ?_
   refine zaA ?_
   refine yP M M (yK M M) (by decide) ?_
   refine zaA ?_
   refine yP M M (yK M M) (by decide) ?_
   refine zaW ?_
   refine zX M M (zQ M M M) (yV w0 b1 _) ?_
   rintro _ _ ⟨rfl,rfl⟩
   rw [show jX (UInt8.toNat 114)=8 from rfl]
   refine zaM ?_
   refine zX M M (zQ M M M) (jJ w0 m.round (loB 114) (hiB 114)) ?_
   rintro _ _ ⟨rfl,rfl⟩
   cases hb:inB m.round (loB 114) (hiB 114)
   ·refine zaB ?_
    exact ⟨[_],X,_,⟨rfl,trivial⟩,⟨by rw [hno (by show (false||inB m.round (loB 114) (hiB 114))=false; rw [hb]; rfl)]; rfl,rfl⟩,yJ.out⟩
   ·refine zbF ?_
    exact ⟨hx,_,zsb,_,rfl,hyes (by show (false||inB m.round (loB 114) (hiB 114))=true; rw [hb]; rfl),yJ.out⟩
  ·skip
   refine yP M M (yK M M) (by decide) ?_
   refine zaA ?_
   refine yP M M (yK M M) (by decide) ?_
   refine zaG ?_
   refine yP M M (yK M M) (by decide) ?_
   refine zaA ?_
   refine yP M M (yK M M) (by decide) ?_
   refine zaA ?_
   refine yP M M (yK M M) (by decide) ?_
   refine zaA ?_
   refine yP M M (yK M M) (by decide) ?_
   refine zaA ?_
   refine yP M M (yK M M) (by decide) ?_
   refine zaW ?_
   refine zX M M (zQ M M M) (yV w0 b1 _) ?_
   rintro _ _ ⟨rfl,rfl⟩
   rw [show jX (UInt8.toNat 115)=13 from rfl]
   refine zaM ?_
   refine zX M M (zQ M M M) (jJ w0 m.seq (loB 115) (hiB 115)) ?_
   rintro _ _ ⟨rfl,rfl⟩
   cases hb:inB m.seq (loB 115) (hiB 115)
   ·refine zaB ?_
    exact ⟨[_],X,_,⟨rfl,trivial⟩,⟨by rw [hno (by show (false||inB m.seq (loB 115) (hiB 115))=false; rw [hb]; rfl)]; rfl,rfl⟩,yJ.out⟩
   ·refine zbF ?_
    exact ⟨hx,_,zsb,_,rfl,hyes (by show (false||inB m.seq (loB 115) (hiB 115))=true; rw [hb]; rfl),yJ.out⟩
  ·skip
   refine yP M M (yK M M) (by decide) ?_
   refine zaA ?_
   refine yP M M (yK M M) (by decide) ?_
   refine zaG ?_
   refine yP M M (yK M M) (by decide) ?_
   refine zaA ?_
   refine yP M M (yK M M) (by decide) ?_
   refine zaA ?_
   refine yP M M (yK M M) (by decide) ?_
   refine zaA ?_
   refine kD M M (yK M M) (by decide) ?_
   refine zaY ?_
   refine zX M M (zQ M M M) (yV w0 b1 _) ?_
   rintro _ _ ⟨rfl,rfl⟩
   rw [show jX (UInt8.toNat 120)=9 from rfl]
   refine zaM ?_
   refine zX M M (zQ M M M) (jJ w0 m.txn (loB 120) (hiB 120)) ?_
   rintro _ _ ⟨rfl,rfl⟩
   cases hb:inB m.txn (loB 120) (hiB 120)
   ·refine zaB ?_
    exact ⟨[_],X,_,⟨rfl,trivial⟩,⟨by rw [hno (by show (false||inB m.txn (loB 120) (hiB 120))=false; rw [hb]; rfl)]; rfl,rfl⟩,yJ.out⟩
   ·refine zbF ?_
    exact ⟨hx,_,zsb,_,rfl,hyes (by show (false||inB m.txn (loB 120) (hiB 120))=true; rw [hb]; rfl),yJ.out⟩
  ·skip
   refine yP M M (yK M M) (by decide) ?_
   refine zaA ?_
   refine yP M M (yK M M) (by decide) ?_
   refine zaG ?_
   refine yP M M (yK M M) (by decide) ?_
   refine zaA ?_
   refine yP M M (yK M M) (by decide) ?_
   refine zaA ?_
   refine yP M M (yK M M) (by decide) ?_
   refine zaA ?_
   refine yP M M (yK M M) (by decide) ?_
   refine zaA ?_
   refine kD M M (yK M M) (by decide) ?_
   refine zaY ?_
   refine zX M M (zQ M M M) (yV w0 b1 _) ?_
   rintro _ _ ⟨rfl,rfl⟩
   rw [show jX (UInt8.toNat 97)=10 from rfl]
   refine zaM ?_
   refine zX M M (zQ M M M) (jJ w0 m.part (loB 97) (hiB 97)) ?_
   rintro _ _ ⟨rfl,rfl⟩
   cases hb:inB m.part (loB 97) (hiB 97)
   ·refine zaB ?_
    exact ⟨[_],X,_,⟨rfl,trivial⟩,⟨by rw [hno (by show (false||inB m.part (loB 97) (hiB 97))=false; rw [hb]; rfl)]; rfl,rfl⟩,yJ.out⟩
   ·refine zbF ?_
    exact ⟨hx,_,zsb,_,rfl,hyes (by show (false||inB m.part (loB 97) (hiB 97))=true; rw [hb]; rfl),yJ.out⟩
  ·skip
   refine yP M M (yK M M) (by decide) ?_
   refine zaA ?_
   refine yP M M (yK M M) (by decide) ?_
   refine zaG ?_
   refine yP M M (yK M M) (by decide) ?_
   refine zaA ?_
   refine yP M M (yK M M) (by decide) ?_
   refine zaA ?_
   refine yP M M (yK M M) (by decide) ?_
   refine zaA ?_
   refine yP M M (yK M M) (by decide) ?_
   refine zaA ?_
   refine yP M M (yK M M) (by decide) ?_
   refine zaW ?_
   refine zX M M (zQ M M M) (yV w0 b1 _) ?_
   rintro _ _ ⟨rfl,rfl⟩
   rw [show jX (UInt8.toNat 98)=11 from rfl]
   refine zaM ?_
   refine zX M M (zQ M M M) (jJ w0 m.ballot (loB 98) (hiB 98)) ?_
   rintro _ _ ⟨rfl,rfl⟩
   cases hb:inB m.ballot (loB 98) (hiB 98)
   ·refine zaB ?_
    exact ⟨[_],X,_,⟨rfl,trivial⟩,⟨by rw [hno (by show (false||inB m.ballot (loB 98) (hiB 98))=false; rw [hb]; rfl)]; rfl,rfl⟩,yJ.out⟩
   ·refine zbF ?_
    exact ⟨hx,_,zsb,_,rfl,hyes (by show (false||inB m.ballot (loB 98) (hiB 98))=true; rw [hb]; rfl),yJ.out⟩
  ·skip
   refine yP M M (yK M M) (by decide) ?_
   refine zaA ?_
   refine yP M M (yK M M) (by decide) ?_
   refine zaG ?_
   refine yP M M (yK M M) (by decide) ?_
   refine zaA ?_
   refine yP M M (yK M M) (by decide) ?_
   refine zaA ?_
   refine kD M M (yK M M) (by decide) ?_
   refine zaY ?_
   refine zX M M (zQ M M M) (yV w0 b1 _) ?_
   rintro _ _ ⟨rfl,rfl⟩
   rw [show jX (UInt8.toNat 118)=12 from rfl]
   refine zaM ?_
   refine zX M M (zQ M M M) (jJ w0 m.value (loB 118) (hiB 118)) ?_
   rintro _ _ ⟨rfl,rfl⟩
   cases hb:inB m.value (loB 118) (hiB 118)
   ·refine zaB ?_
    exact ⟨[_],X,_,⟨rfl,trivial⟩,⟨by rw [hno (by show (false||inB m.value (loB 118) (hiB 118))=false; rw [hb]; rfl)]; rfl,rfl⟩,yJ.out⟩
   ·refine zbF ?_
    exact ⟨hx,_,zsb,_,rfl,hyes (by show (false||inB m.value (loB 118) (hiB 118))=true; rw [hb]; rfl),yJ.out⟩
 have hkl:k=l.length:=by omega
 subst hkl
 rw [List.take_length] at hall
 rw [hall,Bool.true_and] at hF
 rw [hF]
 refine kF M M (ev_next_end M (by omega)) ?_
 rintro _ _ ⟨rfl,rfl⟩
 repeat (first|refine zF ?_|refine zR ?_|refine yC ?_|refine zB ?_|refine zE ?_|refine zK M M M ?_|refine zY M M M M M ?_|refine yM M M M M M ?_|refine yT M M M ?_|refine zI M ?_)
 refine yN m.entries.length (fun k g L=>∃ R:Hp,g=[(48,.slice a m.entries.length c),(49,.int .i64 m.entries.length),(50,.int .i64 k)]∧(m.entries.take k).all fineE=true∧L=X+fr+R) _ ⟨_,rfl,rfl,yJ.out⟩ zsb ?_
 rintro k g L hk ⟨R2,rfl,hall2,rfl⟩
 refine zaH ?_
 refine yF M M (yS M M) (fun n1=>?_) (fun n1=>?_)
 ·have hx2:k<m.entries.length:=by omega
  obtain ⟨b2,o2,rfl,e,hr,hat⟩:=he.at hx2
  obtain ⟨a5,c5,rfl,hr5⟩:=hr
  repeat (first|refine zF ?_|refine zR ?_|refine zB ?_|refine zE ?_|refine zY M M M M M ?_|refine yM M M M M M ?_|refine zP ?_|refine zJ M ?_|refine kC M M (by omega) M M ?_|refine vU M (by assumption) M M M M ?_|refine yY M (vs:=[_,_,_]) M M M M (c':=[_,_,_]) M M ?_|refine xK (c:=[_,_,_]) M M M (fun _=>?_))
  refine zX M M (zQ M M M) (jJ w0 m.entries[k].term 0 1099511627776) ?_
  rintro _ _ ⟨rfl,rfl⟩
  cases g1:inB m.entries[k].term 0 1099511627776
  ·refine zbS ?_
   exact ⟨[_],X,_,⟨rfl,trivial⟩,⟨by rw [all_false hx2 (p:=fineE) (by show (inB m.entries[k].term 0 1099511627776&&inB m.entries[k].kind 0 2)=false; rw [g1]; rfl)]; rfl,rfl⟩,yJ.out⟩
  ·refine zaN ?_
   refine zX M M (zQ M M M) (jJ w0 m.entries[k].kind 0 2) ?_
   rintro _ _ ⟨rfl,rfl⟩
   cases g2:inB m.entries[k].kind 0 2
   ·refine zaB ?_
    exact ⟨[_],X,_,⟨rfl,trivial⟩,⟨by rw [all_false hx2 (p:=fineE) (by show (inB m.entries[k].term 0 1099511627776&&inB m.entries[k].kind 0 2)=false; rw [g1,g2]; rfl)]; rfl,rfl⟩,yJ.out⟩
   ·refine zaJ ?_
    exact ⟨hx2,_,zsb,_,rfl,all_take (p:=fineE) hx2 hall2 (by show (inB m.entries[k].term 0 1099511627776&&inB m.entries[k].kind 0 2)=true; rw [g1,g2]; rfl),yJ.out⟩
 ·rw [List.take_of_length_le (by omega)] at hall2
  rw [hall2]
  refine zaK ?_
  exact ⟨[_],X,_,⟨rfl,trivial⟩,⟨rfl,rfl⟩,yJ.out⟩
def sumE (l:List Ent):Nat:=(l.map (fun e=>24+min e.data.length 65536)).sum
def nF (m:Msg):Nat:=8*(3+(jB m.kind).length)+m.data.length
def fitsF (m:Msg):Bool:=decide (m.entries.length≤1024∧m.data.length≤65536∧nF m+sumE m.entries≤65536)
theorem sumE_take {l:List Ent} {k:Nat} (h:k<l.length):sumE (l.take (k+1))=sumE (l.take k)+(24+min l[k].data.length 65536):=by
 unfold sumE
 rw [List.take_succ_eq_append_getElem h,List.map_append,List.sum_append]; simp
theorem sumE_le (l:List Ent) (k:Nat):sumE (l.take k)≤sumE l:=by
 unfold sumE
 conv=>rhs; rw [← List.take_append_drop k l,List.map_append,List.sum_append]
 omega
section
variable {P:Program} {g:Env}
theorem pv_min_to {x y:Operand} {ts:Array TypeId} {k:IntKind} {i j m:Int} (hx:ev g x=some (.int k i)) (hy:ev g y=some (.int k j)) (h:(if j<i then j else i)=m):PV P g (.call { callee:=.builtin .min,args:=#[x,y],argTypes:=ts }) (.int k m):=by
 rw [← h]; exact pv_min hx hy
end
theorem pv_lenStr2 {P:Program} {g:Env} {t:TypeId} [hu:Und P t .string] {x:Operand} {l:List UInt8} (hx:ev g x=some (.string ⟨l.toArray⟩)):PV P g (.call { callee:=.builtin .len,args:=#[x],argTypes:=#[t] }) (.int .i64 (l.length:Nat)):=by
 intro o a w n ho ha
 unfold execOp
 have:(ByteArray.mk l.toArray).size=l.length:=by show l.toArray.size=_; simp
 simp [ho,resolve,invoke,builtin,ha.ev hx,Builtin.len_,run_underlying hu.out,goInt,this]
theorem pv_str_nil {P:Program} {g:Env} {t ty:TypeId} {x y:Operand} {l:List UInt8} (hx:ev g x=some (.string ⟨l.toArray⟩)) (hy:ev g y=some (.string ⟨#[]⟩)):PV P g (.binOp .eql t x y ty) (.bool (decide (l=[]))):=by
 refine Ab.pv_str hx hy (fun w=>?_) ⟨by simp,by simp⟩
 have key:((ByteArray.mk l.toArray).toList==(ByteArray.mk #[]).toList)=decide (l=[]):=by
  rw [show (#[]:Array UInt8)=([]:List UInt8).toArray from rfl,ByteArray.toList_mk,ByteArray.toList_mk,Bool.eq_iff_iff]; simp
 unfold Op.stringOp
 simp only [key,Sem.run_pure]
theorem fits_spec (w0:World) (X:Hp) (m:Msg) (a a2:Option Addr) (c c2:Nat) (he:RdL w0 X (.slice a m.entries.length c) m.entries) (hl:m.entries.length≤1000000000) (hd:m.data.length≤1000000000) :
  yO Tryz.prog w0 95 [.agg (xI m (.slice a m.entries.length c) (.slice a2 m.data.length c2)).toArray] X (fun r h'=>r=.bool (fitsF m)∧X=h'):=by
 have h7:=fldsM_len m.kind
 refine zN Tryz.func95 M Tryz.ntmps95 Tryz.results95 M fun fr=>?_
 repeat (first|refine zF ?_|refine zB ?_|refine zE ?_|refine zK M M M ?_|refine zY M M M M M ?_|refine yM M M M M M ?_|refine yT M M M ?_|refine xN M (c:=[_,_,_,_,_,_,_,_,_,_,_,_,_,_,_,_,_]) M M M (fun _=>?_))
 rename_i b1
 refine yF M M (kB M M) (fun n1=>?_) (fun n1=>?_)
 ·have hF:fitsF m=false:=decide_eq_false (fun h=>by have:=h.1; omega)
  rw [hF]
  refine zbS ?_
  exact ⟨[_],X,_,⟨rfl,trivial⟩,⟨rfl,rfl⟩,yJ.out⟩
 refine zbW ?_
 refine yF M M (kB M M) (fun n2=>?_) (fun n2=>?_)
 ·have hF:fitsF m=false:=decide_eq_false (fun h=>by have:=h.2.1; omega)
  rw [hF]
  refine zaB ?_
  exact ⟨[_],X,_,⟨rfl,trivial⟩,⟨rfl,rfl⟩,yJ.out⟩
 have hF:fitsF m=decide (nF m+sumE m.entries≤65536):=decide_eq_decide.2 ⟨fun h=>h.2.2,fun h=>⟨by omega,by omega,h⟩⟩
 rw [hF]
 repeat (first|refine zF ?_|refine zE ?_|refine zK M M M ?_|refine zP ?_|refine zI M ?_)
 refine yB [2] [0,1,6,7,8,2,3,4,5,9,10] (by kernel_rfl) M (by kernel_rfl) (by kernel_rfl) ?_
 refine zeC ?_
 refine xU M M M M (zQ M M M) (gL w0 m.kind) (xF.all _) ?_
 rintro _ _ ⟨rfl,rfl⟩
 refine ⟨zka,?_⟩
 skip
 refine yD M M M M (pv_lenStr2 M) ?_
 repeat (refine yD M M M M (dE M M (by omega) (by omega)) ?_)
 refine yD M M M M (pv_mul M M (by omega) (by omega)) ?_
 refine yD M M M M (dE M M (by omega) (by omega)) ?_
 have hn:(8:Int)*(3+((jB m.kind).length:Nat))+(m.data.length:Nat)=((nF m:Nat):Int):=by unfold nF; omega
 rw [hn]
 have hnb:nF m≤65616:=by unfold nF; omega
 refine zaD ?_
 refine zcJ ?_
 refine yN m.entries.length (fun k g L=>∃ R:Hp,g=[(3,.int .i64 ((nF m+sumE (m.entries.take k):Nat):Int)),(27,.slice a m.entries.length c),(28,.int .i64 m.entries.length),(29,.int .i64 k)]∧nF m+sumE (m.entries.take k)≤65616∧L=X+fr+R) _ ⟨_,rfl,hnb,yJ.out⟩ zsb ?_
 rintro k g L hk ⟨R2,rfl,hsb,rfl⟩
 refine zaH ?_
 refine yF M M (yS M M) (fun n3=>?_) (fun n3=>?_)
 ·have hx2:k<m.entries.length:=by omega
  have hst:=sumE_take hx2
  have hle:=sumE_le m.entries (k+1)
  obtain ⟨b2,o2,rfl,e,hr,hat⟩:=he.at hx2
  obtain ⟨a5,c5,rfl,hr5⟩:=hr
  have hq:min m.entries[k].data.length 65536≤65536:=Nat.min_le_right _ _
  have hmn:(if (65536:Int)<(m.entries[k].data.length:Nat) then (65536:Int) else (m.entries[k].data.length:Nat))=((min m.entries[k].data.length 65536:Nat):Int):=by
   split
   ·rw [Nat.min_eq_right (by omega)]; rfl
   ·rw [Nat.min_eq_left (by omega)]
  repeat (first|refine zF ?_|refine zR ?_|refine zB ?_|refine zE ?_|refine zK M M M ?_|refine zY M M M M M ?_|refine yM M M M M M ?_|refine yT M M M ?_|refine zP ?_|refine zJ M ?_|refine kC M M (by omega) M M ?_|refine vU M (by assumption) M M M M ?_|refine yY M (vs:=[_,_,_]) M M M M (c':=[_,_,_]) M M ?_|refine xK (c:=[_,_,_]) M M M (fun _=>?_))
  refine yG M M (pv_min_to M M hmn) ?_
  generalize min m.entries[k].data.length 65536=q at hq hst
  refine zcX ?_
  rw [show ((nF m+sumE (m.entries.take k):Nat):Int)+(24+(q:Int))=((nF m+sumE (m.entries.take (k+1)):Nat):Int) by omega]
  refine yF M M (kB M M) (fun n4=>?_) (fun n4=>?_)
  ·refine zaB ?_
   exact ⟨[_],X,_,⟨rfl,trivial⟩,⟨congrArg Value.bool (decide_eq_false (by omega)).symm,rfl⟩,yJ.out⟩
  ·refine zaJ ?_
   exact ⟨hx2,_,zsb,_,rfl,by omega,yJ.out⟩
 ·rw [List.take_of_length_le (by omega)]
  refine zbB ?_
  refine yG M M (dD M M) ?_
  refine zaE ?_
  exact ⟨[_],X,_,⟨rfl,trivial⟩,⟨congrArg Value.bool (decide_eq_decide.2 (by omega)),rfl⟩,yJ.out⟩
def jA (m:Msg):Int:=if jB m.kind=[] then 13 else if gK m=true then 14 else if qB m=false then 3 else if fitsF m=false then 2 else 0
theorem check12_spec (w0:World) (X:Hp) (m:Msg) (a a2:Option Addr) (c c2:Nat) (he:RdL w0 X (.slice a m.entries.length c) m.entries) (hl:m.entries.length≤1000000000) (hd:m.data.length≤1000000000) :
  yO Tryz.prog w0 43 [.agg (xI m (.slice a m.entries.length c) (.slice a2 m.data.length c2)).toArray] X (fun r h'=>r=.int .i64 (jA m)∧X=h'):=by
 refine zN Tryz.func43 M Tryz.ntmps43 Tryz.results43 M fun fr=>?_
 repeat (first|refine zF ?_|refine zR ?_|refine zB ?_|refine zE ?_|refine zK M M M ?_|refine zY M M M M M ?_|refine yM M M M M M ?_|refine xN M (c:=[_,_,_,_,_,_,_,_,_,_,_,_,_,_,_,_,_]) M M M (fun _=>?_))
 rename_i b1
 refine zX M M (zQ M M M) (gL w0 m.kind) ?_
 rintro _ _ ⟨rfl,rfl⟩
 skip
 refine yF M M (pv_str_nil M M) (fun n1=>?_) (fun n1=>?_)
 ·have hF:jA m=13:=by unfold jA; rw [if_pos n1]
  rw [hF]
  refine zaB ?_
  exact ⟨[_],X,_,⟨rfl,trivial⟩,⟨rfl,rfl⟩,yJ.out⟩
 refine zcI ?_
 refine zX M M (zQ M M M) (foreign_spec w0 m a a2 c c2) ?_
 rintro _ _ ⟨rfl,rfl⟩
 cases h2:gK m
 rotate_left
 ·have hF:jA m=14:=by unfold jA; rw [if_neg n1,if_pos h2]
  rw [hF]
  refine zaB ?_
  exact ⟨[_],X,_,⟨rfl,trivial⟩,⟨rfl,rfl⟩,yJ.out⟩
 refine zcI ?_
 refine zX M M (zQ M M M) (ranged_spec w0 X m a a2 c c2 he hl) ?_
 rintro _ _ ⟨rfl,rfl⟩
 cases h3:qB m
 ·have hF:jA m=3:=by unfold jA; rw [if_neg n1,if_neg (by rw [h2]; simp),if_pos h3]
  rw [hF]
  refine zaB ?_
  exact ⟨[_],X,_,⟨rfl,trivial⟩,⟨rfl,rfl⟩,yJ.out⟩
 refine zcI ?_
 refine zX M M (zQ M M M) (fits_spec w0 X m a a2 c c2 he hl hd) ?_
 rintro _ _ ⟨rfl,rfl⟩
 cases h4:fitsF m
 ·have hF:jA m=2:=by unfold jA; rw [if_neg n1,if_neg (by rw [h2]; simp),if_neg (by rw [h3]; simp),if_pos h4]
  rw [hF]
  refine zaB ?_
  exact ⟨[_],X,_,⟨rfl,trivial⟩,⟨rfl,rfl⟩,yJ.out⟩
 ·have hF:jA m=0:=by unfold jA; rw [if_neg n1,if_neg (by rw [h2]; simp),if_neg (by rw [h3]; simp),if_neg (by rw [h4]; simp)]
  rw [hF]
  refine zbD ?_
  exact ⟨[_],X,_,⟨rfl,trivial⟩,⟨rfl,rfl⟩,yJ.out⟩
def bitI (b:Bool):Int:=if b=true then 1 else 0
def encE (e:Ent):List Bt:=be8 e.term++be8 e.kind++dQ e.data
def encF (m:Msg) (f:Nat):List Bt:=if f=111 then be8 (bitI m.ok) else if f=101 then be8 m.entries.length++(m.entries.map encE).flatten else if f=100 then dQ m.data else be8 (getL m f)
def outL (m:Msg) (l:List UInt8):List Bt:=(l.map (fun f=>encF m f.toNat)).flatten
def preF (m:Msg):List Bt:=be8 m.kind++be8 m.src++be8 m.dst
def dF (m:Msg):List Bt:=preF m++outL m (jB m.kind)
theorem sumE_real {l:List Ent} (h:sumE l≤65536):(l.map encE).flatten.length=sumE l∧∀ e∈l,e.data.length≤65536:=by
 induction l with
 | nil=>exact ⟨rfl,by simp⟩
 | cons x l ih =>
  have hs:sumE (x::l)=24+min x.data.length 65536+sumE l:=by unfold sumE; simp
  rw [hs] at h ⊢
  have hx:min x.data.length 65536=x.data.length:=by
   by_cases hh:x.data.length≤65536
   ·exact Nat.min_eq_left hh
   ·rw [Nat.min_eq_right (by omega)] at h; omega
  obtain ⟨h1,h2⟩:=ih (by omega)
  rw [hx] at h ⊢
  refine ⟨?_,fun e he=>?_⟩
  ·simp only [List.map_cons,List.flatten_cons,List.length_append,h1,encE,dQ,yX]; omega
  ·rcases List.mem_cons.1 he with rfl|he
   ·omega
   ·exact h2 e he
theorem check_ok {m:Msg} (h:jA m=0):jB m.kind≠[]∧gK m=false∧qB m=true∧m.entries.length≤1024∧m.data.length≤65536∧nF m+sumE m.entries≤65536:=by
 unfold jA at h
 split at h
 ·cases h
 rename_i h1
 split at h
 ·cases h
 rename_i h2
 split at h
 ·cases h
 rename_i h3
 split at h
 ·cases h
 rename_i h4
 have h5:fitsF m=true:=by simpa using h4
 exact ⟨h1,by simpa using h2,by simpa using h3,of_decide_eq_true h5⟩
theorem encF_le {m:Msg} (h:jA m=0) (f:Nat):(encF m f).length≤66000:=by
 obtain ⟨_,_,_,h4,h5,h6⟩:=check_ok h
 obtain ⟨h7,_⟩:=sumE_real (l:=m.entries) (by omega)
 unfold encF
 split
 ·rw [yX]; omega
 split
 ·rw [List.length_append,yX,h7]; omega
 split
 ·rw [dQ,List.length_append,yX]; omega
 ·rw [yX]; omega
theorem outL_le {m:Msg} (h:jA m=0):∀ l:List UInt8,(outL m l).length≤66000*l.length
 | []=>by simp [outL]
 | f::l=>by
  have h1:=encF_le h f.toNat
  have h2:=outL_le h l
  unfold outL at h2 ⊢
  simp only [List.map_cons,List.flatten_cons,List.length_append,List.length_cons]
  omega
theorem outL_take (m:Msg) {l:List UInt8} {k:Nat} (h:k<l.length):outL m (l.take (k+1))=outL m (l.take k)++encF m l[k].toNat:=flat_take (fun f:UInt8=>encF m f.toNat) h
theorem preF_length (m:Msg):(preF m).length=24:=by unfold preF; rw [List.length_append,List.length_append,yX,yX,yX]
theorem zaQ {G G' : Prop} (h : G') (f : Zh G'→G:=by intro h; (repeat (first|refine zE ?_|refine zK M M M ?_)); exact h.o) : G:=f ⟨h⟩
theorem zbU {G G' : Prop} (h : G') (f : Zh G'→G:=by intro h; (repeat (first|refine zF ?_|refine yC ?_|refine zE ?_|refine zI M ?_)); exact h.o) : G:=f ⟨h⟩
theorem zeG {G G' : Prop} (h : G') (f : Zh G'→G:=by intro h; (repeat (first|refine zF ?_|refine zB ?_|refine zE ?_|refine zK M M M ?_|refine zY M M M M M ?_|refine yM M M M M M ?_|refine yT M M M ?_|refine zJ M ?_)); exact h.o) : G:=f ⟨h⟩
theorem zeF {G G' : Prop} (h : G') (f : Zh G'→G:=by intro h; (repeat (first|refine zF ?_|refine zB ?_|refine zE ?_|refine zK M M M ?_|refine zY M M M M M ?_|refine yM M M M M M ?_|refine zJ M ?_)); exact h.o) : G:=f ⟨h⟩
theorem zbT {G G' : Prop} (h : G') (f : Zh G'→G:=by intro h; (repeat (first|refine zF ?_|refine zB ?_|refine zY M M M M M ?_|refine yM M M M M M ?_)); exact h.o) : G:=f ⟨h⟩
theorem msgPut_spec (w0:World) (X:Hp) (m:Msg) (a a2:Option Addr) (c c2:Nat) (he:RdL w0 X (.slice a m.entries.length c) m.entries) (hd:RdL w0 X (.slice a2 m.data.length c2) m.data) (hl:m.entries.length≤1000000000) (hdl:m.data.length≤1000000000) :
  yO Tryz.prog w0 202 [.agg (xI m (.slice a m.entries.length c) (.slice a2 m.data.length c2)).toArray] X
   (fun r h'=>(jA m≠0∧r=.tuple #[.slice none 0 0,.int .i64 (jA m)]∧X=h')∨(jA m=0∧65536<(dF m).length∧r=.tuple #[.slice none 0 0,.int .i64 2]∧X=h') ∨
    (jA m=0∧(dF m).length≤65536∧∃ u h,r=.tuple #[u,.int .i64 0]∧OwL w0 0 (vC (dF m)++dF m) u h∧X+h=h')):=by
 refine zN Tryz.func202 M Tryz.ntmps202 Tryz.results202 M fun fr=>?_
 repeat (first|refine zF ?_|refine zB ?_|refine zE ?_|refine zK M M M ?_|refine xJ M (vs:=[_,_,_,_,_,_,_,_,_,_,_,_,_,_,_,_,_]) M M M M M ?_|refine xN M (c:=[_,_,_,_,_,_,_,_,_,_,_,_,_,_,_,_,_]) M M M (fun _=>?_))
 rename_i b1
 refine zX M M (zQ M M M) (check12_spec w0 X m a a2 c c2 he hl hdl) ?_
 rintro _ _ ⟨rfl,rfl⟩
 refine zaC ?_
 refine yF M M (xZ M M) (fun n1=>?_) (fun n1=>?_)
 ·refine zaB ?_
  exact ⟨[_,_],X,_,⟨rfl,rfl,trivial⟩,.inl ⟨n1,rfl,rfl⟩,yJ.out⟩
 have hck:jA m=0:=Decidable.not_not.1 n1
 obtain ⟨q1,q2,q3,q4,q5,q6⟩:=check_ok hck
 obtain ⟨q7,q8⟩:=sumE_real (l:=m.entries) (by omega)
 have h7:=fldsM_len m.kind
 have hin:=fldsM_in m.kind
 have hol:=outL_le hck (jB m.kind)
 rw [hck]
 refine zbP ?_
 refine yB [2,5,8] [0,1,3,4,6,7,2,5,8,9] (by kernel_rfl) M (by kernel_rfl) (by kernel_rfl) ?_
 refine zbR ?_
 refine xU M M M M (zQ M M M) (kJ w0 0 (.slice none 0 0) [] m.kind (RdL.nil _ _ _) (by simp)) (xF.all _) ?_
 rintro v1 _ ⟨h1,ho1,rfl⟩
 refine ⟨zka,?_⟩
 skip
 rw [List.nil_append] at ho1
 refine xU M M M M (zQ M M M) (kJ w0 h1 v1 _ m.src ho1.rdh (by rw [yX]; omega)) (xF.all _) ?_
 rintro v2 _ ⟨h2,ho2,rfl⟩
 refine ⟨zka,?_⟩
 skip
 refine xU M M M M (zQ M M M) (kJ w0 h2 v2 _ m.dst ho2.rdh (by simp only [List.length_append,yX]; omega)) (xF.all _) ?_
 rintro v3 _ ⟨h3,ho3,rfl⟩
 refine ⟨zka,?_⟩
 refine zaD ?_
 refine zbT ?_
 refine zX M M (zQ M M M) (gL w0 m.kind) ?_
 rintro _ _ ⟨rfl,rfl⟩
 skip
 refine kF M M (ev_range M) ?_
 rintro _ _ ⟨b28,rfl,rfl⟩
 repeat (first|refine zR ?_|refine zE ?_)
 have hput:dF m=preF m++outL m (jB m.kind):=rfl
 generalize hfl:jB m.kind=l at hin h7 hol hput
 have hpl:=preF_length m
 have hpre:∀ k,(preF m++outL m (l.take k)).length≤500000:=fun k=>by
  have:=flat_le (fun f:UInt8=>encF m f.toNat) l k
  have h9:(outL m (l.take k)).length≤(outL m l).length:=this
  rw [List.length_append]; omega
 refine yN l.length (fun k g L=>∃ (vo:Value) (h R:Hp),g=[(1,.pointer (some ⟨b1,0,none⟩)),(5,vo),(28,.pointer (some ⟨b28,0,none⟩))]∧OwL w0 0 (preF m++outL m (l.take k)) vo h ∧
  L=pt b28 (.stringIter ⟨l.toArray⟩ k)+(pt b1 (.cells (xI m (.slice a m.entries.length c) (.slice a2 m.data.length c2)).toArray 55 (0,0))+(X+(fr+h)))+R) _ ⟨v3,h3,_,rfl,by simpa [outL,preF] using ho3,yJ.out⟩ zsb ?_
 rintro k g L hk ⟨vo,h,R,rfl,ho,rfl⟩
 refine zaH ?_
 by_cases hx:k<l.length
 ·have hfm:=hin _ (List.getElem_mem hx)
  refine kF M M (ev_next M hx (letter_small hfm) (by omega)) ?_
  rintro _ _ ⟨rfl,rfl⟩
  have hot:=outL_take m hx
  have hpk:=hpre k
  have hlc:=letter_cases hfm
  generalize l[k]=fe at hot hlc
  generalize hP:preF m++outL m (l.take k)=pp at ho hpk
  have fin:∀ {v5:Value} {h5:Hp},OwL w0 0 (pp++encF m fe.toNat) v5 h5→OwL w0 0 (preF m++outL m (l.take (k+1))) v5 h5:=fun h=>by rw [hot,← List.append_assoc,hP]; exact h
  clear hot
  refine zaZ ?_
  rcases hlc with rfl|rfl|rfl|rfl|rfl|rfl|rfl|rfl|rfl|rfl|rfl|rfl|rfl|rfl
  ·skip
   refine kD M M (yK M M) (by decide) ?_
   refine zeF ?_
   refine uU (p:=m.ok=true) (by rw [Bool.decide_eq_true]; rfl) (fun q=>?_) (fun q=>?_)
   ·have hb:encF m (UInt8.toNat 111)=be8 1:=by show be8 (bitI m.ok)=_; unfold bitI; rw [if_pos q]
    rw [hb] at fin
    refine zcO ?_
    refine zX M M (zQ M M M) (kJ w0 h vo pp 1 ho.rdh (by omega)) ?_
    rintro v5 _ ⟨h5,ho5,rfl⟩
    refine zaQ ?_
    exact ⟨hx,_,zsb,v5,h5,_,rfl,fin ho5,yJ.out⟩
   ·have hb:encF m (UInt8.toNat 111)=be8 0:=by show be8 (bitI m.ok)=_; unfold bitI; rw [if_neg q]
    rw [hb] at fin
    repeat (first|refine zB ?_|refine zK M M M ?_|refine zP ?_)
    refine zX M M (zQ M M M) (kJ w0 h vo pp 0 ho.rdh (by omega)) ?_
    rintro v5 _ ⟨h5,ho5,rfl⟩
    refine zaQ ?_
    exact ⟨hx,_,zsb,v5,h5,_,rfl,fin ho5,yJ.out⟩
  ·skip
   refine yP M M (yK M M) (by decide) ?_
   refine zaA ?_
   refine kD M M (yK M M) (by decide) ?_
   refine zeG ?_
   refine zX M M (zQ M M M) (kJ w0 h vo pp m.entries.length ho.rdh (by omega)) ?_
   rintro v5 _ ⟨h5,ho5,rfl⟩
   refine zcJ ?_
   have hsz:∀ j,((m.entries.take j).map encE).flatten.length≤65536:=fun j=>by have:=flat_le encE m.entries j; omega
   refine yN m.entries.length (fun j g L=>∃ (vo:Value) (h R:Hp),g=[(1,.pointer (some ⟨b1,0,none⟩)),(5,vo),(28,.pointer (some ⟨b28,0,none⟩)),(54,.slice a m.entries.length c),(55,.int .i64 m.entries.length),(56,.int .i64 j)]∧OwL w0 0 (pp++be8 m.entries.length++((m.entries.take j).map encE).flatten) vo h ∧
    L=pt b28 (.stringIter ⟨l.toArray⟩ (k+1))+(pt b1 (.cells (xI m (.slice a m.entries.length c) (.slice a2 m.data.length c2)).toArray 55 (0,0))+(X+(fr+h)))+R) _ ⟨v5,h5,_,rfl,by simpa using ho5,yJ.out⟩ zsb ?_
   rintro j g L hj ⟨vo6,h6,R6,rfl,ho6,rfl⟩
   refine zaH ?_
   refine yF M M (yS M M) (fun n3=>?_) (fun n3=>?_)
   ·have hxj:j<m.entries.length:=by omega
    have hst:=flat_step encE hxj
    have hsj:=hsz j
    have hel:(encE m.entries[j]).length=24+m.entries[j].data.length:=by simp only [encE,dQ,List.length_append,yX]; omega
    obtain ⟨b2,o2,rfl,e,hr,hat⟩:=he.at hxj
    obtain ⟨a7,c7,rfl,hr7⟩:=hr
    repeat (first|refine zF ?_|refine zR ?_|refine zB ?_|refine zE ?_|refine zP ?_|refine zJ M ?_|refine kC M M (by omega) M M ?_|refine vU M (by assumption) M M M M ?_|refine yY M (vs:=[_,_,_]) M M M M (c':=[_,_,_]) M M ?_|refine xK (c:=[_,_,_]) M M M (fun _=>?_))
    refine yB [3,6,9] [0,1,2,4,5,7,8,3,6,9,10] (by kernel_rfl) M (by kernel_rfl) (by kernel_rfl) ?_
    refine zaF ?_
    refine xU M M M M (zQ M M M) (kJ w0 h6 vo6 _ m.entries[j].term ho6.rdh (by simp only [List.length_append,yX]; omega)) (xF.all _) ?_
    rintro v8 _ ⟨h8,ho8,rfl⟩
    refine ⟨zka,?_⟩
    skip
    refine xU M M M M (zQ M M M) (kJ w0 h8 v8 _ m.entries[j].kind ho8.rdh (by simp only [List.length_append,yX]; omega)) (xF.all _) ?_
    rintro v9 _ ⟨h9,ho9,rfl⟩
    refine ⟨zka,?_⟩
    skip
    refine xU M M M M (zQ M M M) (putBlob_spec w0 (X+h9) v9 _ _ m.entries[j].data (ho9.rd (R:=X)) (hr7.frame) (by simp only [List.length_append,yX]; omega)) (xF.all _) ?_
    rintro v10 _ ⟨h10,ho10,rfl⟩
    refine ⟨zka,?_⟩
    refine zaD ?_
    refine zaI ?_
    exact ⟨hxj,_,zsb,v10,h10,_,rfl,by rw [flat_take encE hxj]; simpa only [encE,dQ,List.append_assoc] using ho10,yJ.out⟩
   ·rw [List.take_of_length_le (by omega)] at ho6
    refine zbU ?_
    exact ⟨hx,_,zsb,vo6,h6,_,rfl,fin (by show OwL w0 0 (pp++(be8 m.entries.length++(m.entries.map encE).flatten)) vo6 h6; rw [← List.append_assoc]; exact ho6),yJ.out⟩
  ·skip
   refine yP M M (yK M M) (by decide) ?_
   refine zaA ?_
   refine yP M M (yK M M) (by decide) ?_
   refine zaA ?_
   refine kD M M (yK M M) (by decide) ?_
   refine zdC ?_
   refine zX M M (zQ M M M) (putBlob_spec w0 (X+h) vo _ pp m.data (ho.rd (R:=X)) (hd.frame) (by omega)) ?_
   rintro v5 _ ⟨h5,ho5,rfl⟩
   refine zaQ ?_
   exact ⟨hx,_,zsb,v5,h5,_,rfl,fin (by show OwL w0 0 (pp++(be8 m.data.length++m.data)) v5 h5; rw [← List.append_assoc]; exact ho5),yJ.out⟩
  ·skip
   refine yP M M (yK M M) (by decide) ?_
   refine zaA ?_
   refine yP M M (yK M M) (by decide) ?_
   refine zaA ?_
   refine yP M M (yK M M) (by decide) ?_
   refine zaG ?_
   refine zX M M (zQ M M M) (yV w0 b1 _) ?_
   rintro _ _ ⟨rfl,rfl⟩
   rw [show jX (UInt8.toNat 103)=3 from rfl]
   refine zaM ?_
   refine zX M M (zQ M M M) (kJ w0 h vo pp m.group ho.rdh (by omega)) ?_
   rintro v5 _ ⟨h5,ho5,rfl⟩
   refine zaQ ?_
   exact ⟨hx,_,zsb,v5,h5,_,rfl,fin ho5,yJ.out⟩
  ·skip
   refine yP M M (yK M M) (by decide) ?_
   refine zaA ?_
   refine yP M M (yK M M) (by decide) ?_
   refine zaA ?_
   refine yP M M (yK M M) (by decide) ?_
   refine zaG ?_
   refine zX M M (zQ M M M) (yV w0 b1 _) ?_
   rintro _ _ ⟨rfl,rfl⟩
   rw [show jX (UInt8.toNat 116)=4 from rfl]
   refine zaM ?_
   refine zX M M (zQ M M M) (kJ w0 h vo pp m.term ho.rdh (by omega)) ?_
   rintro v5 _ ⟨h5,ho5,rfl⟩
   refine zaQ ?_
   exact ⟨hx,_,zsb,v5,h5,_,rfl,fin ho5,yJ.out⟩
  ·skip
   refine yP M M (yK M M) (by decide) ?_
   refine zaA ?_
   refine yP M M (yK M M) (by decide) ?_
   refine zaA ?_
   refine yP M M (yK M M) (by decide) ?_
   refine zaG ?_
   refine zX M M (zQ M M M) (yV w0 b1 _) ?_
   rintro _ _ ⟨rfl,rfl⟩
   rw [show jX (UInt8.toNat 105)=5 from rfl]
   refine zaM ?_
   refine zX M M (zQ M M M) (kJ w0 h vo pp m.index ho.rdh (by omega)) ?_
   rintro v5 _ ⟨h5,ho5,rfl⟩
   refine zaQ ?_
   exact ⟨hx,_,zsb,v5,h5,_,rfl,fin ho5,yJ.out⟩
  ·skip
   refine yP M M (yK M M) (by decide) ?_
   refine zaA ?_
   refine yP M M (yK M M) (by decide) ?_
   refine zaA ?_
   refine yP M M (yK M M) (by decide) ?_
   refine zaG ?_
   refine zX M M (zQ M M M) (yV w0 b1 _) ?_
   rintro _ _ ⟨rfl,rfl⟩
   rw [show jX (UInt8.toNat 112)=6 from rfl]
   refine zaM ?_
   refine zX M M (zQ M M M) (kJ w0 h vo pp m.prev ho.rdh (by omega)) ?_
   rintro v5 _ ⟨h5,ho5,rfl⟩
   refine zaQ ?_
   exact ⟨hx,_,zsb,v5,h5,_,rfl,fin ho5,yJ.out⟩
  ·skip
   refine yP M M (yK M M) (by decide) ?_
   refine zaA ?_
   refine yP M M (yK M M) (by decide) ?_
   refine zaA ?_
   refine yP M M (yK M M) (by decide) ?_
   refine zaG ?_
   refine zX M M (zQ M M M) (yV w0 b1 _) ?_
   rintro _ _ ⟨rfl,rfl⟩
   rw [show jX (UInt8.toNat 99)=7 from rfl]
   refine zaM ?_
   refine zX M M (zQ M M M) (kJ w0 h vo pp m.commit ho.rdh (by omega)) ?_
   rintro v5 _ ⟨h5,ho5,rfl⟩
   refine zaQ ?_
   exact ⟨hx,_,zsb,v5,h5,_,rfl,fin ho5,yJ.out⟩
  ·skip
   refine yP M M (yK M M) (by decide) ?_
   refine zaA ?_
   refine yP M M (yK M M) (by decide) ?_
   refine zaA ?_
   refine yP M M (yK M M) (by decide) ?_
   refine zaG ?_
   refine zX M M (zQ M M M) (yV w0 b1 _) ?_
   rintro _ _ ⟨rfl,rfl⟩
   rw [show jX (UInt8.toNat 114)=8 from rfl]
   refine zaM ?_
   refine zX M M (zQ M M M) (kJ w0 h vo pp m.round ho.rdh (by omega)) ?_
   rintro v5 _ ⟨h5,ho5,rfl⟩
   refine zaQ ?_
   exact ⟨hx,_,zsb,v5,h5,_,rfl,fin ho5,yJ.out⟩
  ·skip
   refine yP M M (yK M M) (by decide) ?_
   refine zaA ?_
   refine yP M M (yK M M) (by decide) ?_
   refine zaA ?_
   refine yP M M (yK M M) (by decide) ?_
   refine zaG ?_
   refine zX M M (zQ M M M) (yV w0 b1 _) ?_
   rintro _ _ ⟨rfl,rfl⟩
   rw [show jX (UInt8.toNat 115)=13 from rfl]
   refine zaM ?_
   refine zX M M (zQ M M M) (kJ w0 h vo pp m.seq ho.rdh (by omega)) ?_
   rintro v5 _ ⟨h5,ho5,rfl⟩
   refine zaQ ?_
   exact ⟨hx,_,zsb,v5,h5,_,rfl,fin ho5,yJ.out⟩
  ·skip
   refine yP M M (yK M M) (by decide) ?_
   refine zaA ?_
   refine yP M M (yK M M) (by decide) ?_
   refine zaA ?_
   refine yP M M (yK M M) (by decide) ?_
   refine zaG ?_
   refine zX M M (zQ M M M) (yV w0 b1 _) ?_
   rintro _ _ ⟨rfl,rfl⟩
   rw [show jX (UInt8.toNat 120)=9 from rfl]
   refine zaM ?_
   refine zX M M (zQ M M M) (kJ w0 h vo pp m.txn ho.rdh (by omega)) ?_
   rintro v5 _ ⟨h5,ho5,rfl⟩
   refine zaQ ?_
   exact ⟨hx,_,zsb,v5,h5,_,rfl,fin ho5,yJ.out⟩
  ·skip
   refine yP M M (yK M M) (by decide) ?_
   refine zaA ?_
   refine yP M M (yK M M) (by decide) ?_
   refine zaA ?_
   refine yP M M (yK M M) (by decide) ?_
   refine zaG ?_
   refine zX M M (zQ M M M) (yV w0 b1 _) ?_
   rintro _ _ ⟨rfl,rfl⟩
   rw [show jX (UInt8.toNat 97)=10 from rfl]
   refine zaM ?_
   refine zX M M (zQ M M M) (kJ w0 h vo pp m.part ho.rdh (by omega)) ?_
   rintro v5 _ ⟨h5,ho5,rfl⟩
   refine zaQ ?_
   exact ⟨hx,_,zsb,v5,h5,_,rfl,fin ho5,yJ.out⟩
  ·skip
   refine yP M M (yK M M) (by decide) ?_
   refine zaA ?_
   refine yP M M (yK M M) (by decide) ?_
   refine zaA ?_
   refine yP M M (yK M M) (by decide) ?_
   refine zaG ?_
   refine zX M M (zQ M M M) (yV w0 b1 _) ?_
   rintro _ _ ⟨rfl,rfl⟩
   rw [show jX (UInt8.toNat 98)=11 from rfl]
   refine zaM ?_
   refine zX M M (zQ M M M) (kJ w0 h vo pp m.ballot ho.rdh (by omega)) ?_
   rintro v5 _ ⟨h5,ho5,rfl⟩
   refine zaQ ?_
   exact ⟨hx,_,zsb,v5,h5,_,rfl,fin ho5,yJ.out⟩
  ·skip
   refine yP M M (yK M M) (by decide) ?_
   refine zaA ?_
   refine yP M M (yK M M) (by decide) ?_
   refine zaA ?_
   refine yP M M (yK M M) (by decide) ?_
   refine zaG ?_
   refine zX M M (zQ M M M) (yV w0 b1 _) ?_
   rintro _ _ ⟨rfl,rfl⟩
   rw [show jX (UInt8.toNat 118)=12 from rfl]
   refine zaM ?_
   refine zX M M (zQ M M M) (kJ w0 h vo pp m.value ho.rdh (by omega)) ?_
   rintro v5 _ ⟨h5,ho5,rfl⟩
   refine zaQ ?_
   exact ⟨hx,_,zsb,v5,h5,_,rfl,fin ho5,yJ.out⟩
 have hkl:k=l.length:=by omega
 subst hkl
 rw [List.take_length] at ho
 rw [← hput] at ho
 refine kF M M (ev_next_end M (by omega)) ?_
 rintro _ _ ⟨rfl,rfl⟩
 refine zbB ?_
 have hpb:(dF m).length≤500000:=by have:=hpre l.length; rwa [List.take_length,← hput] at this
 refine zX M M (zQ M M M) (framePut_spec w0 h vo (dF m) ho.rdh (by omega)) ?_
 rintro _ _ (⟨g1,rfl,rfl⟩|⟨g1,u,h5,rfl,ho5,rfl⟩)
 ·refine zaE ?_
  exact ⟨[_,_],X,_,⟨rfl,rfl,trivial⟩,.inr (.inl ⟨rfl,g1,rfl,rfl⟩),yJ.out⟩
 ·refine zaE ?_
  exact ⟨[_,_],X+h5,_,⟨rfl,rfl,trivial⟩,.inr (.inr ⟨rfl,by omega,u,h5,rfl,ho5,rfl⟩),yJ.out⟩
structure Ans where
 code:Int
 txn:Int
 data:List Bt
deriving DecidableEq
def sumB (n:Nat) (l:List Ent):Nat:=(l.map (fun e=>min e.data.length (n+1))).sum
def bigEF (l:List Ent) (i n:Nat):Bool:=decide (i<l.length)||decide (n<sumB n l)
theorem sumB_take {l:List Ent} {k n:Nat} (h:k<l.length):sumB n (l.take (k+1))=sumB n (l.take k)+min l[k].data.length (n+1):=by
 unfold sumB
 rw [List.take_succ_eq_append_getElem h,List.map_append,List.sum_append]; simp
theorem sumB_le (n:Nat) (l:List Ent) (k:Nat):sumB n (l.take k)≤sumB n l:=by
 unfold sumB
 conv=>rhs; rw [← List.take_append_drop k l,List.map_append,List.sum_append]
 omega
def bigMF (m:Msg) (i n:Nat):Bool:=bigEF m.entries i n||decide (n<m.data.length)
def entG (s:RS):Ent × RS:=(⟨xQ s,xQ (yR s),dP (yR (yR s))⟩,blobS (yR (yR s)))
def entsOk (s:RS):Bool:=decide (0≤xQ s∧xQ s≤((yR s).left.length:Int) / 24)
def entsV (s:RS):List Ent:=if entsOk s=true then (wD entG (xQ s).toNat (yR s)).1 else []
def entsS (s:RS):RS:=if entsOk s=true then (wD entG (xQ s).toNat (yR s)).2 else yR s
theorem xM (s:RS):(yR s).left.length≤s.left.length:=qU s 8
theorem blobS_le (s:RS):(blobS s).left.length≤s.left.length:=Nat.le_trans (qU _ _) (qU _ _)
theorem entG_le (s:RS):(entG s).2.left.length≤s.left.length:=Nat.le_trans (blobS_le _) (Nat.le_trans (xM _) (xM _))
theorem entries_spec (w0:World) (D:Hp) (b:Nat) (s:RS) (h:Hp) (hr:wL w0 D b s h) (hl:s.left.length≤1000000000000) :
  yO Tryz.prog w0 89 [.pointer (some ⟨b,0,none⟩)] (D+h) (fun r h'=>∃ u h2 ho,r=.tuple #[u,.bool (entsOk s&&!(entsS s).bad)]∧OwL w0 D (entsV s) u ho∧wL w0 D b (entsS s) h2∧D+h2+ho=h'):=by
 have hl1:=xM s
 have no:∀ h1,entsOk s=false→wL w0 D b (yR s) h1→∃ u h2 ho,Value.tuple #[.slice none 0 0,.bool false]=.tuple #[u,.bool (entsOk s&&!(entsS s).bad)]∧OwL w0 D (entsV s) u ho∧wL w0 D b (entsS s) h2∧D+h2+ho=D+h1:=fun h1 he hr1=>by
  refine ⟨.slice none 0 0,h1,0,by rw [he]; rfl,?_,?_,by rw [yA]⟩
  ·unfold entsV; rw [if_neg (by rw [he]; simp)]; exact OwL.nil _ _
  ·unfold entsS; rw [if_neg (by rw [he]; simp)]; exact hr1
 refine zN Tryz.func89 M Tryz.ntmps89 Tryz.results89 M fun fr=>?_
 refine zaC ?_
 refine zX M M (zQ M M M) (xO w0 D b s h hr hl) ?_
 rintro _ _ ⟨h1,rfl,hr1,rfl⟩
 refine zaC ?_
 refine yF M M (yS M M) (fun n1=>?_) (fun n1=>?_)
 ·have he:entsOk s=false:=decide_eq_false (fun h=>by omega)
  refine zbS ?_
  exact ⟨[_,_],D+h1,_,⟨rfl,rfl,trivial⟩,no h1 he hr1,yJ.out⟩
 repeat (refine zK M M M ?_)
 refine zX M M (zQ M M M) (left02_spec w0 D b _ h1 hr1) ?_
 rintro _ _ ⟨rfl,rfl⟩
 refine yG M M (pv_quo_nn M M (by omega) (by omega) (by omega)) ?_
 refine yF M M (kB M M) (fun n2=>?_) (fun n2=>?_)
 ·have he:entsOk s=false:=decide_eq_false (fun h=>by omega)
  refine zaB ?_
  exact ⟨[_,_],D+h1,_,⟨rfl,rfl,trivial⟩,no h1 he hr1,yJ.out⟩
 have he:entsOk s=true:=decide_eq_true ⟨by omega,by omega⟩
 clear no
 obtain ⟨k,hk⟩:=Int.eq_ofNat_of_zero_le (show 0≤xQ s by omega)
 have hkl:k≤1000000000000:=by omega
 have hv:entsV s=(wD entG k (yR s)).1:=by unfold entsV; rw [if_pos he,hk,Int.toNat_natCast]
 have hss:entsS s=(wD entG k (yR s)).2:=by unfold entsS; rw [if_pos he,hk,Int.toNat_natCast]
 rw [he,hv,hss,hk]
 generalize yR s=s1 at hl1 hr1
 clear n1 n2 he hv hss hk
 refine zcD ?_
 refine yN k (fun j g L=>∃ (vo:Value) (h2 h5 R:Hp),g=[(0,.pointer (some ⟨b,0,none⟩)),(5,vo),(17,.int .i64 k),(18,.int .i64 j)] ∧
   OwL w0 D (wD entG j s1).1 vo h2∧wL w0 D b (wD entG j s1).2 h5∧L=D+h5+h2+fr+R) _
  ⟨.slice none 0 0,0,h1,_,rfl,OwL.nil _ _,hr1,by simp only [yA]; exact yJ.out⟩ zsb ?_
 rintro j g L hj ⟨vo,h2,h5,R,rfl,ho,hr5,rfl⟩
 have hml:=many_len (f:=entG) entG_le j s1
 have hmn:=uT entG j s1
 refine zaH ?_
 refine yF M M (yS M M) (fun n3=>?_) (fun n3=>?_)
 ·have hxj:j<k:=by omega
  have hstep:wD entG (j+1) s1=((wD entG j s1).1++[(entG (wD entG j s1).2).1],(entG (wD entG j s1).2).2):=rfl
  have hb1:=xM (wD entG j s1).2
  have hb2:=xM (yR (wD entG j s1).2)
  generalize hs2:(wD entG j s1).2=s2 at hr5 hml hb1 hb2 hstep
  refine zaZ ?_
  refine zX M M (zQ M M M) (xO w0 D b _ h5 hr5 (by omega)) ?_
  rintro _ _ ⟨h6,rfl,hr6,rfl⟩
  repeat (refine zK M M M ?_)
  refine zX M M (zQ M M M) (xO w0 D b _ h6 hr6 (by omega)) ?_
  rintro _ _ ⟨h7,rfl,hr7,rfl⟩
  repeat (refine zK M M M ?_)
  refine zX M M (zQ M M M) (getBlob_spec w0 D b _ h7 hr7 (by omega)) ?_
  rintro _ _ ⟨a8,c8,h8,rfl,hrd,hr8,rfl⟩
  repeat (first|refine yL (vs:=[_,_,_]) (cells:=[_,_,_]) M M M M ?_|refine vM (vs:=[_]) (cells:=[_,_,_]) M M M M M M (fun _=>?_))
  have hnew:Rep.rd w0 D (entG s2).1 [.int .i64 (xQ s2),.int .i64 (xQ (yR s2)),.slice a8 (dP (yR (yR s2))).length c8]:=⟨a8,c8,rfl,hrd⟩
  refine kF M M (xR (X:=D) (ns:=[(entG s2).1]) (h:=h2) M M ho (wQ M) (kU.one hnew) M M M M M (by rw [hmn,List.length_singleton]; omega)) ?_
  rintro v9 _ ⟨h9,ho9,rfl⟩
  refine zaI ?_
  exact ⟨hxj,_,zsb,v9,h9,h8,_,rfl,by rw [hstep]; exact ho9,by rw [hstep]; exact hr8,yJ.out⟩
 ·obtain rfl:j=k:=by omega
  refine zbB ?_
  refine zX M M (zQ M M M) (bad02_spec w0 D b _ h5 hr5) ?_
  rintro _ _ ⟨rfl,rfl⟩
  refine yG M M (pv_not M) ?_
  refine zaE ?_
  exact ⟨[_,_],D+h5+h2,_,⟨rfl,rfl,trivial⟩,⟨vo,h5,h2,rfl,ho,hr5,rfl⟩,yJ.out⟩
def qC (p:Msg × RS) (f:Nat):Option (Msg × RS) :=
 if f=111 then (if xQ p.2=0∨xQ p.2=1 then some ({ p.1 with ok:=decide (xQ p.2=1) },yR p.2) else none)
 else if f=101 then (if (entsOk p.2&&!(entsS p.2).bad)=true then some ({ p.1 with entries:=entsV p.2 },entsS p.2) else none)
 else if f=100 then some ({ p.1 with data:=dP p.2 },blobS p.2)
 else if f=103 then some ({ p.1 with group:=xQ p.2 },yR p.2) else if f=116 then some ({ p.1 with term:=xQ p.2 },yR p.2) else if f=105 then some ({ p.1 with index:=xQ p.2 },yR p.2) else if f=112 then some ({ p.1 with prev:=xQ p.2 },yR p.2) else if f=99 then some ({ p.1 with commit:=xQ p.2 },yR p.2) else if f=114 then some ({ p.1 with round:=xQ p.2 },yR p.2) else if f=115 then some ({ p.1 with seq:=xQ p.2 },yR p.2) else if f=120 then some ({ p.1 with txn:=xQ p.2 },yR p.2) else if f=97 then some ({ p.1 with part:=xQ p.2 },yR p.2) else if f=98 then some ({ p.1 with ballot:=xQ p.2 },yR p.2) else some ({ p.1 with value:=xQ p.2 },yR p.2)
def vN :List UInt8→Msg × RS→Option (Msg × RS)
 | [],p=>some p
 | f::l,p=>match qC p f.toNat with
  | none=>none
  | some q=>vN l q
theorem readR_app :∀ (l m:List UInt8) (p:Msg × RS),vN (l++m) p=(vN l p).bind (vN m)
 | [],m,p=>rfl
 | f::l,m,p=>by
  simp only [List.cons_append,vN]
  cases qC p f.toNat with
  | none=>rfl
  | some q=>exact readR_app l m q
theorem readR_take {l:List UInt8} {k:Nat} {p q:Msg × RS} (h:k<l.length) (hq:vN (l.take k) p=some q):vN (l.take (k+1)) p=qC q l[k].toNat:=by
 rw [List.take_succ_eq_append_getElem h,readR_app,hq]
 simp only [Option.bind_some,vN]
 cases qC q l[k].toNat<;>rfl
theorem readR_none {l:List UInt8} {k:Nat} {p q:Msg × RS} (h:k<l.length) (hq:vN (l.take k) p=some q) (hn:qC q l[k].toNat=none):vN l p=none:=by
 have h1:=readR_take h hq
 rw [hn] at h1
 rw [← List.take_append_drop (k+1) l,readR_app,h1]; rfl
def readOk (l:List UInt8) (p:Msg × RS):Bool:=match vN l p with
 | none=>false
 | some q=>decide (endV q.2=0)
theorem entsS_le (s:RS):(entsS s).left.length≤s.left.length:=by
 unfold entsS
 split
 ·exact Nat.le_trans (many_len (f:=entG) entG_le _ _) (xM s)
 ·exact xM s
theorem zbL {G G' : Prop} (h : G') (f : Zh G'→G:=by intro h; (repeat (first|refine zF ?_|refine zB ?_|refine zE ?_|refine zK M M M ?_|refine zP ?_|refine zI M ?_|refine xD M M M (c':=[_,_,_,_,_,_,_,_,_,_,_,_,_,_,_,_,_]) M M M M ?_)); exact h.o) : G:=f ⟨h⟩
theorem zeH {G G' : Prop} (h : G') (f : Zh G'→G:=by intro h; (repeat (first|refine zF ?_|refine zB ?_|refine zE ?_|refine zK M M M ?_|refine zY M M M M M ?_|refine zM ?_|refine zJ M ?_|refine xD M M M (c':=[_,_,_,_,_,_,_,_,_,_,_,_,_,_,_,_,_]) M M M M ?_)); exact h.o) : G:=f ⟨h⟩
theorem zdN {G G' : Prop} (h : G') (f : Zh G'→G:=by intro h; (repeat (first|refine zF ?_|refine zB ?_|refine zE ?_|refine zK M M M ?_|refine zY M M M M M ?_|refine zP ?_|refine zI M ?_|refine xD M M M (c':=[_,_,_,_,_,_,_,_,_,_,_,_,_,_,_,_,_]) M M M M ?_)); exact h.o) : G:=f ⟨h⟩
theorem read12_spec (w0:World) (D:Hp) (b bm:Nat) (m:Msg) (s:RS) (h:Hp) (a a2:Option Addr) (c c2:Nat) (hr:wL w0 D b s h) (hl:s.left.length≤1000000000000) (he:RdL w0 D (.slice a m.entries.length c) m.entries) (hd:RdL w0 D (.slice a2 m.data.length c2) m.data) :
  yO Tryz.prog w0 42 [.pointer (some ⟨bm,0,none⟩),.pointer (some ⟨b,0,none⟩)] (pt bm (.cells (xI m (.slice a m.entries.length c) (.slice a2 m.data.length c2)).toArray 55 (0,0))+(D+h))
   (fun r h'=>∃ (m':Msg) (s':RS) (a a2:Option Addr) (c c2:Nat) (G hr:Hp),r=.bool (readOk (jB m.kind) (m,s))∧(∀ q,vN (jB m.kind) (m,s)=some q→q=(m',s')) ∧
    RdL w0 (D+G) (.slice a m'.entries.length c) m'.entries∧RdL w0 (D+G) (.slice a2 m'.data.length c2) m'.data∧wL w0 D b s' hr ∧
    pt bm (.cells (xI m' (.slice a m'.entries.length c) (.slice a2 m'.data.length c2)).toArray 55 (0,0))+(D+hr+G)=h'):=by
 refine zN Tryz.func42 M Tryz.ntmps42 Tryz.results42 M fun fr=>?_
 refine zbA ?_
 refine zX M M (zQ M M M) (gL w0 m.kind) ?_
 rintro _ _ ⟨rfl,rfl⟩
 skip
 refine kF M M (ev_range M) ?_
 rintro _ _ ⟨b14,rfl,rfl⟩
 repeat (first|refine zR ?_|refine zE ?_)
 have hin:=fldsM_in m.kind
 have h7:=fldsM_len m.kind
 generalize jB m.kind=l at hin h7
 have ret:∀ (m2:Msg) (s2:RS) (a a2:Option Addr) (c c2:Nat) (G h2:Hp),vN l (m,s)=none→RdL w0 (D+G) (.slice a m2.entries.length c) m2.entries→RdL w0 (D+G) (.slice a2 m2.data.length c2) m2.data→wL w0 D b s2 h2 →
   ∃ (m':Msg) (s':RS) (a3 a4:Option Addr) (c3 c4:Nat) (G' hr':Hp),Value.bool false=.bool (readOk l (m,s))∧(∀ q,vN l (m,s)=some q→q=(m',s')) ∧
   RdL w0 (D+G') (.slice a3 m'.entries.length c3) m'.entries∧RdL w0 (D+G') (.slice a4 m'.data.length c4) m'.data∧wL w0 D b s' hr' ∧
   pt bm (.cells (xI m' (.slice a3 m'.entries.length c3) (.slice a4 m'.data.length c4)).toArray 55 (0,0))+(D+hr'+G')=pt bm (.cells (xI m2 (.slice a m2.entries.length c) (.slice a2 m2.data.length c2)).toArray 55 (0,0))+(D+h2+G) :=
  fun m2 s2 a a2 c c2 G h2 hn he hd hr=>⟨m2,s2,a,a2,c,c2,G,h2,by unfold readOk; rw [hn],fun q hq=>(by rw [hn] at hq; cases hq),he,hd,hr,rfl⟩
 refine yN l.length (fun k g L=>∃ (m1:Msg) (s1:RS) (a a2:Option Addr) (c c2:Nat) (G h1 R:Hp),g=[(0,.pointer (some ⟨bm,0,none⟩)),(1,.pointer (some ⟨b,0,none⟩)),(14,.pointer (some ⟨b14,0,none⟩))] ∧
  vN (l.take k) (m,s)=some (m1,s1)∧s1.left.length≤s.left.length∧RdL w0 (D+G) (.slice a m1.entries.length c) m1.entries∧RdL w0 (D+G) (.slice a2 m1.data.length c2) m1.data∧wL w0 D b s1 h1 ∧
  L=pt b14 (.stringIter ⟨l.toArray⟩ k)+(pt bm (.cells (xI m1 (.slice a m1.entries.length c) (.slice a2 m1.data.length c2)).toArray 55 (0,0))+(D+h1+(G+fr)))+R) _
  ⟨m,s,a,a2,c,c2,0,h,0,rfl,rfl,Nat.le_refl _,he.mono M,hd.mono M,hr,by simp only [yA,qW]; ac_rfl⟩ zsb ?_
 clear he hd hr
 rintro k g L hk ⟨m1,s1,a,a2,c,c2,G,h1,R,rfl,hrk,hsl,he,hd,hr,rfl⟩
 refine zaH ?_
 by_cases hx:k<l.length
 ·have hfm:=hin _ (List.getElem_mem hx)
  refine kF M M (ev_next M hx (letter_small hfm) (by omega)) ?_
  rintro _ _ ⟨rfl,rfl⟩
  have hrt:=readR_take hx hrk
  have hrn:=fun hn=>readR_none hx hrk hn
  have hlc:=letter_cases hfm
  generalize l[k]=fe at hrt hrn hlc
  refine zaZ ?_
  rcases hlc with rfl|rfl|rfl|rfl|rfl|rfl|rfl|rfl|rfl|rfl|rfl|rfl|rfl|rfl
  ·skip
   refine kD M M (yK M M) (by decide) ?_
   refine zaY ?_
   have hil:=xM s1
   refine zX M M (zQ M M M) (xO w0 D b s1 h1 hr (by omega)) ?_
   rintro _ _ ⟨h2,rfl,hr2,rfl⟩
   have hst:qC (m1,s1) (UInt8.toNat 111)=if xQ s1=0∨xQ s1=1 then some ({ m1 with ok:=decide (xQ s1=1) },yR s1) else none:=rfl
   refine zcO ?_
   refine yF M M (yK M M) (fun g1=>?_) (fun g1=>?_)
   ·rw [if_pos (.inr g1),decide_eq_true g1] at hst
    repeat (refine zK M M M ?_)
    refine yP M M (yK M M) (by omega) ?_
    repeat (refine zK M M M ?_)
    refine kD M M (yK M M) g1 ?_
    refine zdN ?_
    exact ⟨hx,_,zsb,{m1 with ok:=true},yR s1,a,a2,c,c2,G,h2,_,rfl,by rw [hrt]; exact hst,by omega,he,hd,hr2,by
     show _=pt b14 _+(pt bm (.cells (xI {m1 with ok:=true} (.slice a (m1.entries).length c) (.slice a2 (m1.data).length c2)).toArray _ (0,0))+(D+h2+(G+fr)))+_
     exact yJ.out⟩
   ·repeat (refine zK M M M ?_)
    refine yF M M (yK M M) (fun g2=>?_) (fun g2=>?_)
    ·rw [if_pos (.inl g2),decide_eq_false g1] at hst
     repeat (first|refine zF ?_|refine zB ?_|refine zE ?_|refine zK M M M ?_|refine zY M M M M M ?_|refine xE M M ?_|refine zP ?_|refine zI M ?_|refine xD M M M (c':=[_,_,_,_,_,_,_,_,_,_,_,_,_,_,_,_,_]) M M M M ?_)
     exact ⟨hx,_,zsb,{m1 with ok:=false},yR s1,a,a2,c,c2,G,h2,_,rfl,by rw [hrt]; exact hst,by omega,he,hd,hr2,by
      show _=pt b14 _+(pt bm (.cells (xI {m1 with ok:=false} (.slice a (m1.entries).length c) (.slice a2 (m1.data).length c2)).toArray _ (0,0))+(D+h2+(G+fr)))+_
      exact yJ.out⟩
    ·rw [if_neg (fun h=>h.elim g2 g1)] at hst
     repeat (refine zK M M M ?_)
     refine yP M M (yK M M) g1 ?_
     refine zeH ?_
     exact ⟨[_],pt bm (.cells (xI { m1 with ok:=false } (.slice a m1.entries.length c) (.slice a2 m1.data.length c2)).toArray 55 (0,0))+(D+h2+G),_,⟨rfl,trivial⟩,ret { m1 with ok:=false } _ a a2 c c2 G h2 (hrn hst) he hd hr2,yJ.out⟩
  ·skip
   refine yP M M (yK M M) (by decide) ?_
   refine zaA ?_
   refine kD M M (yK M M) (by decide) ?_
   refine zaU ?_
   refine zX M M (zQ M M M) (entries_spec w0 D b s1 h1 hr (by omega)) ?_
   rintro _ _ ⟨u,h2,ho,rfl,ho3,hr2,rfl⟩
   obtain ⟨a3,c3,rfl⟩:=ho3.shape
   have hst:qC (m1,s1) (UInt8.toNat 101)=if (entsOk s1&&!(entsS s1).bad)=true then some ({ m1 with entries:=entsV s1 },entsS s1) else none:=rfl
   have hle:=entsS_le s1
   have he3:RdL w0 (D+(G+ho)) (.slice a3 (entsV s1).length c3) (entsV s1):=ho3.rd0.mono (R:=G) (by ac_rfl)
   have hd3:RdL w0 (D+(G+ho)) (.slice a2 m1.data.length c2) m1.data:=hd.mono (R:=ho) (by ac_rfl)
   cases hk2:(entsOk s1&&!(entsS s1).bad)
   ·rw [if_neg (by rw [hk2]; simp)] at hst
    refine zeH ?_
    exact ⟨[_],pt bm (.cells (xI { m1 with entries:=entsV s1 } (.slice a3 (entsV s1).length c3) (.slice a2 m1.data.length c2)).toArray 55 (0,0))+(D+h2+(G+ho)),_,⟨rfl,trivial⟩,ret { m1 with entries:=entsV s1 } _ a3 a2 c3 c2 (G+ho) h2 (hrn hst) he3 hd3 hr2,yJ.out⟩
   ·rw [if_pos hk2] at hst
    refine zdN ?_
    exact ⟨hx,_,zsb,{ m1 with entries:=entsV s1 },entsS s1,a3,a2,c3,c2,G+ho,h2,_,rfl,by rw [hrt]; exact hst,by omega,he3,hd3,hr2,by
     show _=pt b14 _+(pt bm (.cells (xI { m1 with entries:=entsV s1 } (.slice a3 (entsV s1).length c3) (.slice a2 (m1.data).length c2)).toArray _ (0,0))+(D+h2+(G+ho+fr)))+_
     exact yJ.out⟩
  ·skip
   refine yP M M (yK M M) (by decide) ?_
   refine zaA ?_
   refine yP M M (yK M M) (by decide) ?_
   refine zaA ?_
   refine kD M M (yK M M) (by decide) ?_
   refine zaU ?_
   refine zX M M (zQ M M M) (getBlob_spec w0 D b s1 h1 hr (by omega)) ?_
   rintro _ _ ⟨a3,c3,h2,rfl,hrd,hr2,rfl⟩
   have hst:qC (m1,s1) (UInt8.toNat 100)=some ({ m1 with data:=dP s1 },blobS s1):=rfl
   have hle:=blobS_le s1
   refine zdN ?_
   exact ⟨hx,_,zsb,{ m1 with data:=dP s1 },blobS s1,a,a3,c,c3,G,h2,_,rfl,by rw [hrt]; exact hst,by omega,he,hrd.mono M,hr2,by
     show _=pt b14 _+(pt bm (.cells (xI { m1 with data:=dP s1 } (.slice a (m1.entries).length c) (.slice a3 (dP s1).length c3)).toArray _ (0,0))+(D+h2+(G+fr)))+_
     exact yJ.out⟩
  ·skip
   refine yP M M (yK M M) (by decide) ?_
   refine zaA ?_
   refine yP M M (yK M M) (by decide) ?_
   refine zaA ?_
   refine yP M M (yK M M) (by decide) ?_
   refine zaG ?_
   refine zX M M (zQ M M M) (yV w0 bm _) ?_
   rintro _ _ ⟨rfl,rfl⟩
   rw [show jX (UInt8.toNat 103)=3 from rfl]
   repeat (refine zK M M M ?_)
   refine zX M M (zQ M M M) (xO w0 D b s1 h1 hr (by omega)) ?_
   rintro _ _ ⟨h2,rfl,hr2,rfl⟩
   have hst:qC (m1,s1) (UInt8.toNat 103)=some ({ m1 with group:=xQ s1 },yR s1):=rfl
   have hle:=xM s1
   refine zbL ?_
   exact ⟨hx,_,zsb,{ m1 with group:=xQ s1 },yR s1,a,a2,c,c2,G,h2,_,rfl,by rw [hrt]; exact hst,by omega,he,hd,hr2,by
     show _=pt b14 _+(pt bm (.cells (xI { m1 with group:=xQ s1 } (.slice a (m1.entries).length c) (.slice a2 (m1.data).length c2)).toArray _ (0,0))+(D+h2+(G+fr)))+_
     exact yJ.out⟩
  ·skip
   refine yP M M (yK M M) (by decide) ?_
   refine zaA ?_
   refine yP M M (yK M M) (by decide) ?_
   refine zaA ?_
   refine yP M M (yK M M) (by decide) ?_
   refine zaG ?_
   refine zX M M (zQ M M M) (yV w0 bm _) ?_
   rintro _ _ ⟨rfl,rfl⟩
   rw [show jX (UInt8.toNat 116)=4 from rfl]
   repeat (refine zK M M M ?_)
   refine zX M M (zQ M M M) (xO w0 D b s1 h1 hr (by omega)) ?_
   rintro _ _ ⟨h2,rfl,hr2,rfl⟩
   have hst:qC (m1,s1) (UInt8.toNat 116)=some ({ m1 with term:=xQ s1 },yR s1):=rfl
   have hle:=xM s1
   refine zbL ?_
   exact ⟨hx,_,zsb,{ m1 with term:=xQ s1 },yR s1,a,a2,c,c2,G,h2,_,rfl,by rw [hrt]; exact hst,by omega,he,hd,hr2,by
     show _=pt b14 _+(pt bm (.cells (xI { m1 with term:=xQ s1 } (.slice a (m1.entries).length c) (.slice a2 (m1.data).length c2)).toArray _ (0,0))+(D+h2+(G+fr)))+_
     exact yJ.out⟩
  ·skip
   refine yP M M (yK M M) (by decide) ?_
   refine zaA ?_
   refine yP M M (yK M M) (by decide) ?_
   refine zaA ?_
   refine yP M M (yK M M) (by decide) ?_
   refine zaG ?_
   refine zX M M (zQ M M M) (yV w0 bm _) ?_
   rintro _ _ ⟨rfl,rfl⟩
   rw [show jX (UInt8.toNat 105)=5 from rfl]
   repeat (refine zK M M M ?_)
   refine zX M M (zQ M M M) (xO w0 D b s1 h1 hr (by omega)) ?_
   rintro _ _ ⟨h2,rfl,hr2,rfl⟩
   have hst:qC (m1,s1) (UInt8.toNat 105)=some ({ m1 with index:=xQ s1 },yR s1):=rfl
   have hle:=xM s1
   refine zbL ?_
   exact ⟨hx,_,zsb,{ m1 with index:=xQ s1 },yR s1,a,a2,c,c2,G,h2,_,rfl,by rw [hrt]; exact hst,by omega,he,hd,hr2,by
     show _=pt b14 _+(pt bm (.cells (xI { m1 with index:=xQ s1 } (.slice a (m1.entries).length c) (.slice a2 (m1.data).length c2)).toArray _ (0,0))+(D+h2+(G+fr)))+_
     exact yJ.out⟩
  ·skip
   refine yP M M (yK M M) (by decide) ?_
   refine zaA ?_
   refine yP M M (yK M M) (by decide) ?_
   refine zaA ?_
   refine yP M M (yK M M) (by decide) ?_
   refine zaG ?_
   refine zX M M (zQ M M M) (yV w0 bm _) ?_
   rintro _ _ ⟨rfl,rfl⟩
   rw [show jX (UInt8.toNat 112)=6 from rfl]
   repeat (refine zK M M M ?_)
   refine zX M M (zQ M M M) (xO w0 D b s1 h1 hr (by omega)) ?_
   rintro _ _ ⟨h2,rfl,hr2,rfl⟩
   have hst:qC (m1,s1) (UInt8.toNat 112)=some ({ m1 with prev:=xQ s1 },yR s1):=rfl
   have hle:=xM s1
   refine zbL ?_
   exact ⟨hx,_,zsb,{ m1 with prev:=xQ s1 },yR s1,a,a2,c,c2,G,h2,_,rfl,by rw [hrt]; exact hst,by omega,he,hd,hr2,by
     show _=pt b14 _+(pt bm (.cells (xI { m1 with prev:=xQ s1 } (.slice a (m1.entries).length c) (.slice a2 (m1.data).length c2)).toArray _ (0,0))+(D+h2+(G+fr)))+_
     exact yJ.out⟩
  ·skip
   refine yP M M (yK M M) (by decide) ?_
   refine zaA ?_
   refine yP M M (yK M M) (by decide) ?_
   refine zaA ?_
   refine yP M M (yK M M) (by decide) ?_
   refine zaG ?_
   refine zX M M (zQ M M M) (yV w0 bm _) ?_
   rintro _ _ ⟨rfl,rfl⟩
   rw [show jX (UInt8.toNat 99)=7 from rfl]
   repeat (refine zK M M M ?_)
   refine zX M M (zQ M M M) (xO w0 D b s1 h1 hr (by omega)) ?_
   rintro _ _ ⟨h2,rfl,hr2,rfl⟩
   have hst:qC (m1,s1) (UInt8.toNat 99)=some ({ m1 with commit:=xQ s1 },yR s1):=rfl
   have hle:=xM s1
   refine zbL ?_
   exact ⟨hx,_,zsb,{ m1 with commit:=xQ s1 },yR s1,a,a2,c,c2,G,h2,_,rfl,by rw [hrt]; exact hst,by omega,he,hd,hr2,by
     show _=pt b14 _+(pt bm (.cells (xI { m1 with commit:=xQ s1 } (.slice a (m1.entries).length c) (.slice a2 (m1.data).length c2)).toArray _ (0,0))+(D+h2+(G+fr)))+_
     exact yJ.out⟩
  ·skip
   refine yP M M (yK M M) (by decide) ?_
   refine zaA ?_
   refine yP M M (yK M M) (by decide) ?_
   refine zaA ?_
   refine yP M M (yK M M) (by decide) ?_
   refine zaG ?_
   refine zX M M (zQ M M M) (yV w0 bm _) ?_
   rintro _ _ ⟨rfl,rfl⟩
   rw [show jX (UInt8.toNat 114)=8 from rfl]
   repeat (refine zK M M M ?_)
   refine zX M M (zQ M M M) (xO w0 D b s1 h1 hr (by omega)) ?_
   rintro _ _ ⟨h2,rfl,hr2,rfl⟩
   have hst:qC (m1,s1) (UInt8.toNat 114)=some ({ m1 with round:=xQ s1 },yR s1):=rfl
   have hle:=xM s1
   refine zbL ?_
   exact ⟨hx,_,zsb,{ m1 with round:=xQ s1 },yR s1,a,a2,c,c2,G,h2,_,rfl,by rw [hrt]; exact hst,by omega,he,hd,hr2,by
     show _=pt b14 _+(pt bm (.cells (xI { m1 with round:=xQ s1 } (.slice a (m1.entries).length c) (.slice a2 (m1.data).length c2)).toArray _ (0,0))+(D+h2+(G+fr)))+_
     exact yJ.out⟩
  ·skip
   refine yP M M (yK M M) (by decide) ?_
   refine zaA ?_
   refine yP M M (yK M M) (by decide) ?_
   refine zaA ?_
   refine yP M M (yK M M) (by decide) ?_
   refine zaG ?_
   refine zX M M (zQ M M M) (yV w0 bm _) ?_
   rintro _ _ ⟨rfl,rfl⟩
   rw [show jX (UInt8.toNat 115)=13 from rfl]
   repeat (refine zK M M M ?_)
   refine zX M M (zQ M M M) (xO w0 D b s1 h1 hr (by omega)) ?_
   rintro _ _ ⟨h2,rfl,hr2,rfl⟩
   have hst:qC (m1,s1) (UInt8.toNat 115)=some ({ m1 with seq:=xQ s1 },yR s1):=rfl
   have hle:=xM s1
   refine zbL ?_
   exact ⟨hx,_,zsb,{ m1 with seq:=xQ s1 },yR s1,a,a2,c,c2,G,h2,_,rfl,by rw [hrt]; exact hst,by omega,he,hd,hr2,by
     show _=pt b14 _+(pt bm (.cells (xI { m1 with seq:=xQ s1 } (.slice a (m1.entries).length c) (.slice a2 (m1.data).length c2)).toArray _ (0,0))+(D+h2+(G+fr)))+_
     exact yJ.out⟩
  ·skip
   refine yP M M (yK M M) (by decide) ?_
   refine zaA ?_
   refine yP M M (yK M M) (by decide) ?_
   refine zaA ?_
   refine yP M M (yK M M) (by decide) ?_
   refine zaG ?_
   refine zX M M (zQ M M M) (yV w0 bm _) ?_
   rintro _ _ ⟨rfl,rfl⟩
   rw [show jX (UInt8.toNat 120)=9 from rfl]
   repeat (refine zK M M M ?_)
   refine zX M M (zQ M M M) (xO w0 D b s1 h1 hr (by omega)) ?_
   rintro _ _ ⟨h2,rfl,hr2,rfl⟩
   have hst:qC (m1,s1) (UInt8.toNat 120)=some ({ m1 with txn:=xQ s1 },yR s1):=rfl
   have hle:=xM s1
   refine zbL ?_
   exact ⟨hx,_,zsb,{ m1 with txn:=xQ s1 },yR s1,a,a2,c,c2,G,h2,_,rfl,by rw [hrt]; exact hst,by omega,he,hd,hr2,by
     show _=pt b14 _+(pt bm (.cells (xI { m1 with txn:=xQ s1 } (.slice a (m1.entries).length c) (.slice a2 (m1.data).length c2)).toArray _ (0,0))+(D+h2+(G+fr)))+_
     exact yJ.out⟩
  ·skip
   refine yP M M (yK M M) (by decide) ?_
   refine zaA ?_
   refine yP M M (yK M M) (by decide) ?_
   refine zaA ?_
   refine yP M M (yK M M) (by decide) ?_
   refine zaG ?_
   refine zX M M (zQ M M M) (yV w0 bm _) ?_
   rintro _ _ ⟨rfl,rfl⟩
   rw [show jX (UInt8.toNat 97)=10 from rfl]
   repeat (refine zK M M M ?_)
   refine zX M M (zQ M M M) (xO w0 D b s1 h1 hr (by omega)) ?_
   rintro _ _ ⟨h2,rfl,hr2,rfl⟩
   have hst:qC (m1,s1) (UInt8.toNat 97)=some ({ m1 with part:=xQ s1 },yR s1):=rfl
   have hle:=xM s1
   refine zbL ?_
   exact ⟨hx,_,zsb,{ m1 with part:=xQ s1 },yR s1,a,a2,c,c2,G,h2,_,rfl,by rw [hrt]; exact hst,by omega,he,hd,hr2,by
     show _=pt b14 _+(pt bm (.cells (xI { m1 with part:=xQ s1 } (.slice a (m1.entries).length c) (.slice a2 (m1.data).length c2)).toArray _ (0,0))+(D+h2+(G+fr)))+_
     exact yJ.out⟩
  ·skip
   refine yP M M (yK M M) (by decide) ?_
   refine zaA ?_
   refine yP M M (yK M M) (by decide) ?_
   refine zaA ?_
   refine yP M M (yK M M) (by decide) ?_
   refine zaG ?_
   refine zX M M (zQ M M M) (yV w0 bm _) ?_
   rintro _ _ ⟨rfl,rfl⟩
   rw [show jX (UInt8.toNat 98)=11 from rfl]
   repeat (refine zK M M M ?_)
   refine zX M M (zQ M M M) (xO w0 D b s1 h1 hr (by omega)) ?_
   rintro _ _ ⟨h2,rfl,hr2,rfl⟩
   have hst:qC (m1,s1) (UInt8.toNat 98)=some ({ m1 with ballot:=xQ s1 },yR s1):=rfl
   have hle:=xM s1
   refine zbL ?_
   exact ⟨hx,_,zsb,{ m1 with ballot:=xQ s1 },yR s1,a,a2,c,c2,G,h2,_,rfl,by rw [hrt]; exact hst,by omega,he,hd,hr2,by
     show _=pt b14 _+(pt bm (.cells (xI { m1 with ballot:=xQ s1 } (.slice a (m1.entries).length c) (.slice a2 (m1.data).length c2)).toArray _ (0,0))+(D+h2+(G+fr)))+_
     exact yJ.out⟩
  ·skip
   refine yP M M (yK M M) (by decide) ?_
   refine zaA ?_
   refine yP M M (yK M M) (by decide) ?_
   refine zaA ?_
   refine yP M M (yK M M) (by decide) ?_
   refine zaG ?_
   refine zX M M (zQ M M M) (yV w0 bm _) ?_
   rintro _ _ ⟨rfl,rfl⟩
   rw [show jX (UInt8.toNat 118)=12 from rfl]
   repeat (refine zK M M M ?_)
   refine zX M M (zQ M M M) (xO w0 D b s1 h1 hr (by omega)) ?_
   rintro _ _ ⟨h2,rfl,hr2,rfl⟩
   have hst:qC (m1,s1) (UInt8.toNat 118)=some ({ m1 with value:=xQ s1 },yR s1):=rfl
   have hle:=xM s1
   refine zbL ?_
   exact ⟨hx,_,zsb,{ m1 with value:=xQ s1 },yR s1,a,a2,c,c2,G,h2,_,rfl,by rw [hrt]; exact hst,by omega,he,hd,hr2,by
     show _=pt b14 _+(pt bm (.cells (xI { m1 with value:=xQ s1 } (.slice a (m1.entries).length c) (.slice a2 (m1.data).length c2)).toArray _ (0,0))+(D+h2+(G+fr)))+_
     exact yJ.out⟩
 have hkl:k=l.length:=by omega
 subst hkl
 rw [List.take_length] at hrk
 refine kF M M (ev_next_end M (by omega)) ?_
 rintro _ _ ⟨rfl,rfl⟩
 refine zbB ?_
 refine zX M M (zQ M M M) (end02_spec w0 D b s1 h1 hr) ?_
 rintro _ _ ⟨rfl,rfl⟩
 refine yG M M (yK M M) ?_
 refine zaE ?_
 have hro:readOk l (m,s)=decide (endV s1=0):=by unfold readOk; rw [hrk]
 have hpost:∃ (m':Msg) (s':RS) (a3 a4:Option Addr) (c3 c4:Nat) (G' hr':Hp),Value.bool (decide (endV s1=0))=.bool (readOk l (m,s))∧(∀ q,vN l (m,s)=some q→q=(m',s')) ∧
   RdL w0 (D+G') (.slice a3 m'.entries.length c3) m'.entries∧RdL w0 (D+G') (.slice a4 m'.data.length c4) m'.data∧wL w0 D b s' hr' ∧
   pt bm (.cells (xI m' (.slice a3 m'.entries.length c3) (.slice a4 m'.data.length c4)).toArray 55 (0,0))+(D+hr'+G')=pt bm (.cells (xI m1 (.slice a m1.entries.length c) (.slice a2 m1.data.length c2)).toArray 55 (0,0))+(D+h1+G) :=
  ⟨m1,s1,a,a2,c,c2,G,h1,by rw [hro],fun q hq=>by rw [hrk] at hq; exact (Option.some.inj hq).symm,he,hd,hr,rfl⟩
 exact ⟨[_],pt bm (.cells (xI m1 (.slice a m1.entries.length c) (.slice a2 m1.data.length c2)).toArray 55 (0,0))+(D+h1+G),_,⟨rfl,trivial⟩,hpost,yJ.out⟩
def dK :Msg:=⟨0,0,0,0,0,0,0,0,0,0,0,0,0,0,false,[],[]⟩
def m0F (s:RS):Msg:=⟨xQ s,xQ (yR s),xQ (yR (yR s)),0,0,0,0,0,0,0,0,0,0,0,false,[],[]⟩
def bodyM (s:RS):Msg × Int :=
 if (yR (yR (yR s))).bad=true then (dK,4) else if jB (m0F s).kind=[] then (dK,13) else
 match vN (jB (m0F s).kind) (m0F s,yR (yR (yR s))) with
 | none=>(dK,4)
 | some q=>if endV q.2≠0 then (dK,4) else if jA q.1≠0 then (dK,jA q.1) else (q.1,0)
def kH (b:List Bt):Msg × Int:=if (wV b).2.2≠0 then (dK,(wV b).2.2) else if (wV b).2.1≠b.length then (dK,2) else bodyM ⟨(wV b).1,false⟩
theorem getFr_len (b:List Bt):(wV b).1.length≤b.length:=by
 unfold wV
 split
 ·simp
 split
 ·simp
 split
 ·simp
 split
 ·show ((b.drop 8).take (de4 b)).length≤_; rw [List.length_take,List.length_drop]; omega
 ·simp
theorem entsV_len (s:RS):(entsV s).length≤s.left.length:=by
 unfold entsV
 split
 ·rename_i h
  have h:=of_decide_eq_true h
  have:=xM s
  rw [uT]; omega
 ·simp
theorem blobV_len (s:RS):(dP s).length≤s.left.length:=Nat.le_trans (takeV_len _ _) (xM s)
theorem stepR_len {p q:Msg × RS} {f N:Nat} (h:qC p f=some q) (h1:p.1.entries.length≤N) (h2:p.1.data.length≤N) (h3:p.2.left.length≤N):q.1.entries.length≤N∧q.1.data.length≤N∧q.2.left.length≤N:=by
 have e1:=Nat.le_trans (xM p.2) h3
 have e2:=Nat.le_trans (entsS_le p.2) h3
 have e3:=Nat.le_trans (blobS_le p.2) h3
 have e4:=Nat.le_trans (entsV_len p.2) h3
 have e5:=Nat.le_trans (blobV_len p.2) h3
 unfold qC at h
 by_cases c111:f=111
 ·rw [if_pos c111] at h
  by_cases d:xQ p.2=0∨xQ p.2=1
  ·rw [if_pos d] at h
   (simp only [Option.some.injEq] at h; subst h; exact ⟨by assumption,by assumption,by assumption⟩)
  ·rw [if_neg d] at h; cases h
 rw [if_neg c111] at h
 by_cases c101:f=101
 ·rw [if_pos c101] at h
  by_cases d:(entsOk p.2&&!(entsS p.2).bad)=true
  ·rw [if_pos d] at h
   (simp only [Option.some.injEq] at h; subst h; exact ⟨by assumption,by assumption,by assumption⟩)
  ·rw [if_neg d] at h; cases h
 rw [if_neg c101] at h
 by_cases c100:f=100
 ·rw [if_pos c100] at h
  (simp only [Option.some.injEq] at h; subst h; exact ⟨by assumption,by assumption,by assumption⟩)
 rw [if_neg c100] at h
 by_cases c103:f=103
 ·rw [if_pos c103] at h
  (simp only [Option.some.injEq] at h; subst h; exact ⟨by assumption,by assumption,by assumption⟩)
 rw [if_neg c103] at h
 by_cases c116:f=116
 ·rw [if_pos c116] at h
  (simp only [Option.some.injEq] at h; subst h; exact ⟨by assumption,by assumption,by assumption⟩)
 rw [if_neg c116] at h
 by_cases c105:f=105
 ·rw [if_pos c105] at h
  (simp only [Option.some.injEq] at h; subst h; exact ⟨by assumption,by assumption,by assumption⟩)
 rw [if_neg c105] at h
 by_cases c112:f=112
 ·rw [if_pos c112] at h
  (simp only [Option.some.injEq] at h; subst h; exact ⟨by assumption,by assumption,by assumption⟩)
 rw [if_neg c112] at h
 by_cases c99:f=99
 ·rw [if_pos c99] at h
  (simp only [Option.some.injEq] at h; subst h; exact ⟨by assumption,by assumption,by assumption⟩)
 rw [if_neg c99] at h
 by_cases c114:f=114
 ·rw [if_pos c114] at h
  (simp only [Option.some.injEq] at h; subst h; exact ⟨by assumption,by assumption,by assumption⟩)
 rw [if_neg c114] at h
 by_cases c115:f=115
 ·rw [if_pos c115] at h
  (simp only [Option.some.injEq] at h; subst h; exact ⟨by assumption,by assumption,by assumption⟩)
 rw [if_neg c115] at h
 by_cases c120:f=120
 ·rw [if_pos c120] at h
  (simp only [Option.some.injEq] at h; subst h; exact ⟨by assumption,by assumption,by assumption⟩)
 rw [if_neg c120] at h
 by_cases c97:f=97
 ·rw [if_pos c97] at h
  (simp only [Option.some.injEq] at h; subst h; exact ⟨by assumption,by assumption,by assumption⟩)
 rw [if_neg c97] at h
 by_cases c98:f=98
 ·rw [if_pos c98] at h
  (simp only [Option.some.injEq] at h; subst h; exact ⟨by assumption,by assumption,by assumption⟩)
 rw [if_neg c98] at h
 (simp only [Option.some.injEq] at h; subst h; exact ⟨by assumption,by assumption,by assumption⟩)
theorem readR_len {N:Nat}:∀ {l:List UInt8} {p q:Msg × RS},vN l p=some q→p.1.entries.length≤N→p.1.data.length≤N→p.2.left.length≤N→q.1.entries.length≤N∧q.1.data.length≤N∧q.2.left.length≤N
 | [],p,q,h,h1,h2,h3=>by
  simp only [vN,Option.some.injEq] at h; subst h; exact ⟨h1,h2,h3⟩
 | f::l,p,q,h,h1,h2,h3=>by
  simp only [vN] at h
  split at h
  ·cases h
  ·rename_i p2 hs
   obtain ⟨g1,g2,g3⟩:=stepR_len hs h1 h2 h3
   exact readR_len h g1 g2 g3
theorem zbN {G G' : Prop} (h : G') (f : Zh G'→G:=by intro h; (repeat (first|refine zF ?_|refine zB ?_|refine zE ?_|refine zK M M M ?_|refine zM ?_|refine zJ M ?_|refine yL (vs:=[]) (cells:=[_,_,_,_,_,_,_,_,_,_,_,_,_,_,_,_,_]) M M M M ?_|refine yY M (vs:=[_,_,_,_,_,_,_,_,_,_,_,_,_,_,_,_,_]) M M M M (c':=[_,_,_,_,_,_,_,_,_,_,_,_,_,_,_,_,_]) M M ?_)); exact h.o) : G:=f ⟨h⟩
theorem zeI {G G' : Prop} (h : G') (f : Zh G'→G:=by intro h; (repeat (first|refine zF ?_|refine zB ?_|refine zE ?_|refine zK M M M ?_|refine zP ?_|refine zI M ?_|refine xJ M (vs:=[_,_,_,_,_,_,_,_,_,_,_,_,_,_,_,_,_]) M M M M M ?_)); exact h.o) : G:=f ⟨h⟩
theorem zeJ {G G' : Prop} (h : G') (f : Zh G'→G:=by intro h; (repeat (first|refine zF ?_|refine zB ?_|refine zE ?_|refine zK M M M ?_|refine zP ?_|refine zM ?_|refine zI M ?_|refine xJ M (vs:=[_,_,_,_,_,_,_,_,_,_,_,_,_,_,_,_,_]) M M M M M ?_|refine yY M (vs:=[_,_,_,_,_,_,_,_,_,_,_,_,_,_,_,_,_]) M M M M (c':=[_,_,_,_,_,_,_,_,_,_,_,_,_,_,_,_,_]) M M ?_)); exact h.o) : G:=f ⟨h⟩
theorem msgGet_spec (w0:World) (X:Hp) (v:Value) (b:List Bt) (hv:RdL w0 X v b) (hl:b.length≤1000000000) (hcap:∀ ad n c,v=.slice ad n c→n≤c) :
  yO Tryz.prog w0 19 [v] X (fun r h'=>∃ (a a2:Option Addr) (c c2:Nat) (G:Hp),r=.tuple #[.agg (xI (kH b).1 (.slice a (kH b).1.entries.length c) (.slice a2 (kH b).1.data.length c2)).toArray,.int .i64 (kH b).2] ∧
   RdL w0 G (.slice a (kH b).1.entries.length c) (kH b).1.entries∧RdL w0 G (.slice a2 (kH b).1.data.length c2) (kH b).1.data∧X+G=h'):=by
 have no:∀ e:Int,kH b=(dK,e)→∃ (a a2:Option Addr) (c c2:Nat) (G:Hp),Value.tuple #[.agg (xI dK (.slice none 0 0) (.slice none 0 0)).toArray,.int .i64 e]=.tuple #[.agg (xI (kH b).1 (.slice a (kH b).1.entries.length c) (.slice a2 (kH b).1.data.length c2)).toArray,.int .i64 (kH b).2] ∧
   RdL w0 G (.slice a (kH b).1.entries.length c) (kH b).1.entries∧RdL w0 G (.slice a2 (kH b).1.data.length c2) (kH b).1.data∧X+G=X:=fun e he=>by
  rw [he]; exact ⟨none,none,0,0,0,rfl,RdL.nil _ _ _,RdL.nil _ _ _,yA _⟩
 have hg:=frameGet_spec w0 X v b hv hl hcap
 have hgl:=getFr_len b
 obtain ⟨av,cv,rfl⟩:=hv.shape
 refine zN Tryz.func19 M Tryz.ntmps19 Tryz.results19 M fun fr=>?_
 repeat (first|refine zF ?_|refine zB ?_|refine zE ?_|refine zK M M M ?_|refine xK (c:=[_,_,_,_,_,_,_,_,_,_,_,_,_,_,_,_,_]) M M M (fun _=>?_))
 rename_i b2
 refine zX M M (zQ M M M) hg ?_
 rintro _ _ ⟨u,h1,rfl,ho1,rfl⟩
 obtain ⟨a1,c1,rfl⟩:=ho1.shape
 have hF:kH b=if (wV b).2.2≠0 then (dK,(wV b).2.2) else if (wV b).2.1≠b.length then (dK,2) else bodyM ⟨(wV b).1,false⟩:=rfl
 generalize wV b=fr1 at hF ho1 hgl
 obtain ⟨p,n,e⟩:=fr1
 simp only at hF ho1 hgl
 refine zaC ?_
 refine yF M M (xZ M M) (fun n1=>?_) (fun n1=>?_)
 ·rw [if_pos n1] at hF
  refine zbN ?_
  exact ⟨[_,_],X,_,⟨⟨_,rfl,zL (vs:=[_,_,_,_,_,_,_,_,_,_,_,_,_,_,_,_,_]) M M M⟩,rfl,trivial⟩,no e hF,yJ.out⟩
 rw [if_neg n1] at hF
 refine zcW ?_
 refine yF M M (xZ M M) (fun n2=>?_) (fun n2=>?_)
 ·rw [if_pos n2] at hF
  refine zbN ?_
  exact ⟨[_,_],X,_,⟨⟨_,rfl,zL (vs:=[_,_,_,_,_,_,_,_,_,_,_,_,_,_,_,_,_]) M M M⟩,rfl,trivial⟩,no 2 hF,yJ.out⟩
 rw [if_neg n2] at hF
 clear hg n1 n2
 refine zaW ?_
 refine zX M M (zQ M M M) (read02_spec w0 h1 _ p ho1.rdh (by omega)) ?_
 rintro _ _ ⟨br,D,h2,rfl,hr2,rfl⟩
 have hp0:p.length≤1000000000:=by omega
 have e1:=xM ⟨p,false⟩
 have e2:=xM (yR ⟨p,false⟩)
 have e3:=xM (yR (yR ⟨p,false⟩))
 simp only at e1
 refine zaC ?_
 refine zX M M (zQ M M M) (xO w0 D br _ h2 hr2 (by simp only; omega)) ?_
 rintro _ _ ⟨h3,rfl,hr3,rfl⟩
 repeat (refine zK M M M ?_)
 refine zX M M (zQ M M M) (xO w0 D br _ h3 hr3 (by omega)) ?_
 rintro _ _ ⟨h4,rfl,hr4,rfl⟩
 repeat (refine zK M M M ?_)
 refine zX M M (zQ M M M) (xO w0 D br _ h4 hr4 (by omega)) ?_
 rintro _ _ ⟨h5,rfl,hr5,rfl⟩
 unfold bodyM at hF
 generalize hs0:(⟨p,false⟩:RS)=s0 at *
 generalize hs3:yR (yR (yR s0))=s3 at *
 repeat (first|refine zF ?_|refine zR ?_|refine zB ?_|refine zE ?_|refine zK M M M ?_|refine yL (vs:=[_,_,_]) (cells:=[_,_,_,_,_,_,_,_,_,_,_,_,_,_,_,_,_]) M M M M ?_|refine yY M (vs:=[_,_,_,_,_,_,_,_,_,_,_,_,_,_,_,_,_]) M M M M (c':=[_,_,_,_,_,_,_,_,_,_,_,_,_,_,_,_,_]) M M ?_|refine xK (c:=[_,_,_,_,_,_,_,_,_,_,_,_,_,_,_,_,_]) M M M (fun _=>?_))
 rename_i b8
 refine zX M M (zQ M M M) (bad02_spec w0 D br _ h5 hr5) ?_
 rintro _ _ ⟨rfl,rfl⟩
 cases hb:s3.bad
 rotate_left
 ·rw [if_pos hb] at hF
  refine zbN ?_
  exact ⟨[_,_],X,_,⟨⟨_,rfl,zL (vs:=[_,_,_,_,_,_,_,_,_,_,_,_,_,_,_,_,_]) M M M⟩,rfl,trivial⟩,no 4 hF,yJ.out⟩
 rw [if_neg (by rw [hb]; simp)] at hF
 refine zbH ?_
 rw [show (m0F s0).kind=xQ s0 from rfl] at hF
 refine zX M M (zQ M M M) (gL w0 (xQ s0)) ?_
 rintro _ _ ⟨rfl,rfl⟩
 skip
 refine yF M M (pv_str_nil M M) (fun n3=>?_) (fun n3=>?_)
 ·rw [if_pos n3] at hF
  refine zbN ?_
  exact ⟨[_,_],X,_,⟨⟨_,rfl,zL (vs:=[_,_,_,_,_,_,_,_,_,_,_,_,_,_,_,_,_]) M M M⟩,rfl,trivial⟩,no 13 hF,yJ.out⟩
 rw [if_neg n3] at hF
 refine zaA ?_
 have hrd:=read12_spec w0 D br b8 (m0F s0) s3 h5 none none 0 0 hr5 (by omega) (RdL.nil _ _ _) (RdL.nil _ _ _)
 rw [show (m0F s0).kind=xQ s0 from rfl] at hrd
 change yO _ _ _ _ (pt b8 (.cells (xI ⟨xQ s0,xQ (yR s0),xQ (yR (yR s0)),0,0,0,0,0,0,0,0,0,0,0,false,[],[]⟩ (.slice none 0 0) (.slice none 0 0)).toArray 55 (0,0))+(D+h5)) _ at hrd
 refine zX M M (zQ M M M) hrd ?_
 rintro _ _ ⟨m1,s1,a,a2,c,c2,G,h6,rfl,hq,he,hd,hr6,rfl⟩
 cases hok:readOk (jB (xQ s0)) (m0F s0,s3)
 ·have h4:kH b=(dK,4):=by
   unfold readOk at hok
   cases hR:vN (jB (xQ s0)) (m0F s0,s3) with
   | none=>rw [hR] at hF; exact hF
   | some q =>
    rw [hR] at hF hok
    simp only at hF hok
    rw [if_pos (of_decide_eq_false hok)] at hF
    exact hF
  refine zbN ?_
  exact ⟨[_,_],X,_,⟨⟨_,rfl,zL (vs:=[_,_,_,_,_,_,_,_,_,_,_,_,_,_,_,_,_]) M M M⟩,rfl,trivial⟩,no 4 h4,yJ.out⟩
 have hfin:m1.entries.length≤1000000000∧m1.data.length≤1000000000∧kH b=if jA m1≠0 then (dK,jA m1) else (m1,0):=by
  unfold readOk at hok
  cases hR:vN (jB (xQ s0)) (m0F s0,s3) with
  | none=>rw [hR] at hok; cases hok
  | some q =>
   rw [hR] at hF hok
   simp only at hF hok
   obtain rfl:=hq q hR
   rw [if_neg (fun h=>h (of_decide_eq_true hok))] at hF
   obtain ⟨g1,g2,_⟩:=readR_len (N:=1000000000) hR (by simp [m0F]) (by simp [m0F]) (by show s3.left.length≤_; omega)
   exact ⟨g1,g2,hF⟩
 obtain ⟨g1,g2,hF⟩:=hfin
 refine zeI ?_
 refine zX M M (zQ M M M) (check12_spec w0 (D+G) m1 a a2 c c2 he g1 g2) ?_
 rintro _ _ ⟨rfl,rfl⟩
 refine zaC ?_
 refine yF M M (xZ M M) (fun n4=>?_) (fun n4=>?_)
 ·rw [if_pos n4] at hF
  refine zbN ?_
  exact ⟨[_,_],X,_,⟨⟨_,rfl,zL (vs:=[_,_,_,_,_,_,_,_,_,_,_,_,_,_,_,_,_]) M M M⟩,rfl,trivial⟩,no _ hF,yJ.out⟩
 ·rw [if_neg n4] at hF
  refine zeJ ?_
  have hpost:∃ (a3 a4:Option Addr) (c3 c4:Nat) (G':Hp),Value.tuple #[.agg (xI m1 (.slice a m1.entries.length c) (.slice a2 m1.data.length c2)).toArray,.int .i64 0]=.tuple #[.agg (xI (kH b).1 (.slice a3 (kH b).1.entries.length c3) (.slice a4 (kH b).1.data.length c4)).toArray,.int .i64 (kH b).2] ∧
    RdL w0 G' (.slice a3 (kH b).1.entries.length c3) (kH b).1.entries∧RdL w0 G' (.slice a4 (kH b).1.data.length c4) (kH b).1.data∧X+G'=X+(D+G):=by
   rw [hF]; exact ⟨a,a2,c,c2,D+G,rfl,he,hd,rfl⟩
  exact ⟨[_,_],X+(D+G),_,⟨⟨_,rfl,zL (vs:=[_,_,_,_,_,_,_,_,_,_,_,_,_,_,_,_,_]) M M M⟩,rfl,trivial⟩,hpost,yJ.out⟩
end Sl
end Go.Proofs.YtfahijncpmlhjaaGreat
namespace Go.Proofs.YtfahijncpmlhjaaGreat
open Go Go.RowKit
namespace Sl
section
variable {κ α:Type} [DecidableEq κ]
def findP (x:κ):List (κ × α)→Nat→Option (Nat × α)
 | [],_=>none
 | (y,v)::l,i=>if x=y then some (i,v) else findP x l (i+1)
def jU (l:List (κ × α)) (x:κ):Option α:=match l with
 | []=>none
 | (y,v)::l=>if x=y then some v else jU l x
def wC (l:List (κ × α)) (x:κ) (v:α):List (κ × α):=match l with
 | []=>[(x,v)]
 | (y,u)::l=>if x=y then (x,v)::l else (y,u)::wC l x v
theorem findP_get (x:κ):∀ (l:List (κ × α)) (i:Nat),(findP x l i).map (·.2)=jU l x
 | [],_=>rfl
 | (y,v)::l,i=>by
  simp only [findP,jU]
  split
  ·rfl
  ·exact findP_get x l (i+1)
theorem getA_upd (l:List (κ × α)) (x y:κ) (v:α):jU (wC l x v) y=if y=x then some v else jU l y:=by
 induction l with
 | nil=>simp [wC,jU]
 | cons p l ih =>
  obtain ⟨z,u⟩:=p
  simp only [wC]
  split
  ·rename_i h; subst h; simp only [jU]; split<;>simp_all
  ·rename_i h; simp only [jU,ih]
   split
   ·rename_i h2; subst h2; rw [if_neg (fun e=>h e.symm)]
   ·rfl
theorem updA_length (l:List (κ × α)) (x:κ) (v:α):(wC l x v).length≤l.length+1:=by
 induction l with
 | nil=>simp [wC]
 | cons p l ih =>
  obtain ⟨z,u⟩:=p
  simp only [wC]
  split
  ·simp
  ·simp only [List.length_cons]; omega
end
class KeyT (P:Program) (κ:Type) [DecidableEq κ] where
 kt:TypeId
 enc:κ→Value
 check:∀ (e:Bool) (w:World) (x:κ),(Instr.checkKey e 10000 kt (enc x)).run P w=.ok () w
 find:∀ (w:World) (x:κ) (es:List MapEntry) (l:List (κ × Value)),(es.map fun e=>(e.key,e.val))=l.map (fun p=>(enc p.1,p.2))→(Instr.findKey kt (enc x) es).run P w=.ok (findP x l 0) w
 stays:∀ (w:World) (x:κ),(Instr.keyThatStays (enc x) (enc x)).run P w=.ok (enc x) w
section
variable {P:Program} {κ:Type} [DecidableEq κ] [ρ:KeyT P κ] {w0:World} {L:Hp} {g:Env}
def qT (P:Program) {κ:Type} [DecidableEq κ] [ρ:KeyT P κ] (b:Nat) (l:List (κ × Value)) (h:Hp):Prop :=
 ∃ (es:Array MapEntry) (clock:Nat),h=pt b (.map es clock)∧(es.toList.map fun e=>(e.key,e.val))=l.map (fun p=>(ρ.enc p.1,p.2))
theorem qT.empty (b:Nat):qT P b ([]:List (κ × Value)) (pt b (.map #[] 0)):=⟨#[],0,rfl,rfl⟩
theorem ev_mapNew {t:TypeId}:EV P w0 L g (.makeMap t none) fun u L'=>∃ b,u=.map (some b)∧L'=pt b (.map #[] 0)+L:=by
 intro o a w n ho ha hst
 refine ⟨.map (some w.heap.size),w.alloc (.map #[] 0),_,.inl ?_,⟨_,rfl,rfl⟩,hst.alloc _⟩
 unfold execOp
 have hnew:(newObj (.map #[] 0)).run P w=.ok w.heap.size (w.alloc (.map #[] 0)):=rfl
 simp [ho,Instr.makeMap,hnew]
theorem qT.heap {b:Nat} {l:List (κ × Value)} {h R:Hp} (H:qT P b l h) {w:World} (hw:St w0 w (h+R)):∃ (es:Array MapEntry) (clock:Nat),w.heap[b]?=some (.map es clock)∧(es.toList.map fun e=>(e.key,e.val))=l.map (fun p=>(ρ.enc p.1,p.2)):=by
 obtain ⟨es,clock,rfl,he⟩:=H
 exact ⟨es,clock,hw.left.sat.pt.2,he⟩
theorem bK {t e:TypeId} [hu:Und P t (.map ρ.kt e)] {sz by':Nat} {z:Value} [hi:Inf P e sz by' z] {x ix:Operand} {b:Nat} {l:List (κ × Value)} {k:κ} {h R:Hp} (hx:ev g x=some (.map (some b))) (hix:ev g ix=some (ρ.enc k)) (H:qT P b l h) [hf:yJ h L R] :
  EV P w0 L g (.lookup t x ix false) fun u L'=>u=(jU l k).getD z∧L'=L:=by
 intro o a w n ho ha hst
 have e:=hf.out
 obtain ⟨es,clock,hb,he⟩:=H.heap (R:=R) (w:=w) (w0:=w0) (by rw [← e]; exact hst)
 obtain ⟨i,i1,i2,i3,i4⟩:=hi.out
 refine ⟨_,w,L,.inl ?_,⟨rfl,rfl⟩,hst⟩
 unfold execOp
 simp only [ho,ha.ev hx,ha.ev hix]
 have hg:=MapKept.run_getObj_map (P:=P) hb
 have hfk:=ρ.find w k es.toList l he
 rw [← findP_get k l 0]
 cases hr:findP k l 0 with
 | none=>rw [hr] at hfk; simp [Instr.lookup,run_underlying hu.out,hg,ρ.check,hfk,zeroValue,typeInfo,i1,i4]
 | some p=>rw [hr] at hfk; simp [Instr.lookup,run_underlying hu.out,hg,ρ.check,hfk]
theorem ev_mapGetOk {t e:TypeId} [hu:Und P t (.map ρ.kt e)] {sz by':Nat} {z:Value} [hi:Inf P e sz by' z] {x ix:Operand} {b:Nat} {l:List (κ × Value)} {k:κ} {h R:Hp} (hx:ev g x=some (.map (some b))) (hix:ev g ix=some (ρ.enc k)) (H:qT P b l h) [hf:yJ h L R] :
  EV P w0 L g (.lookup t x ix true) fun u L'=>u=.tuple #[(jU l k).getD z,.bool (jU l k).isSome]∧L'=L:=by
 intro o a w n ho ha hst
 have e:=hf.out
 obtain ⟨es,clock,hb,he⟩:=H.heap (R:=R) (w:=w) (w0:=w0) (by rw [← e]; exact hst)
 obtain ⟨i,i1,i2,i3,i4⟩:=hi.out
 refine ⟨_,w,L,.inl ?_,⟨rfl,rfl⟩,hst⟩
 unfold execOp
 simp only [ho,ha.ev hx,ha.ev hix]
 have hg:=MapKept.run_getObj_map (P:=P) hb
 have hfk:=ρ.find w k es.toList l he
 rw [← findP_get k l 0]
 cases hr:findP k l 0 with
 | none=>rw [hr] at hfk; simp [Instr.lookup,run_underlying hu.out,hg,ρ.check,hfk,zeroValue,typeInfo,i1,i4]
 | some p=>rw [hr] at hfk; simp [Instr.lookup,run_underlying hu.out,hg,ρ.check,hfk]
theorem findP_some {x:κ}:∀ {l:List (κ × Value)} {i j:Nat} {v:Value},findP x l i=some (j,v)→∃ n,j=i+n∧l[n]?=some (x,v)
 | [],i,j,v,h=>by cases h
 | (y,u)::l,i,j,v,h=>by
  simp only [findP] at h
  split at h
  ·rename_i e; subst e; simp only [Option.some.injEq,Prod.mk.injEq] at h; exact ⟨0,by omega,by simp [h.2]⟩
  ·obtain ⟨n,h1,h2⟩:=findP_some h
   exact ⟨n+1,by omega,by simpa using h2⟩
theorem updA_none {x:κ} {v:Value}:∀ {l:List (κ × Value)} {i:Nat},findP x l i=none→wC l x v=l++[(x,v)]
 | [],_,_=>rfl
 | (y,u)::l,i,h=>by
  simp only [findP] at h
  split at h
  ·cases h
  ·rename_i e; simp only [wC,if_neg e,List.cons_append,updA_none h]
theorem updA_some {x:κ} {v u:Value}:∀ {l:List (κ × Value)} {i n:Nat},findP x l i=some (i+n,u)→wC l x v=l.set n (x,v)
 | [],_,_,h=>by cases h
 | (y,u0)::l,i,n,h=>by
  simp only [findP] at h
  split at h
  ·rename_i e; subst e
   simp only [Option.some.injEq,Prod.mk.injEq] at h
   obtain rfl:n=0:=by omega
   simp [wC]
  ·rename_i e
   obtain ⟨m,h1,h2⟩:=findP_some h
   obtain rfl:n=m+1:=by omega
   have:=updA_some (v:=v) (l:=l) (i:=i+1) (n:=m) (by rw [h]; exact congrArg (fun q=>some (q,u)) (by omega))
   simp only [wC,if_neg e,List.set_cons_succ,this]
theorem ev_mapSet {t e:TypeId} [hu:Und P t (.map ρ.kt e)] {x ix y:Operand} {b:Nat} {l:List (κ × Value)} {k:κ} {v:Value} {h R:Hp} (hx:ev g x=some (.map (some b))) (hix:ev g ix=some (ρ.enc k)) (hy:ev g y=some v) (H:qT P b l h) [hf:yJ h L R] :
  EV P w0 L g (.mapUpdate t x ix y) fun u L'=>∃ h',qT P b (wC l k v) h'∧L'=h'+R:=by
 intro o a w n ho ha hst
 have e:=hf.out
 subst e
 obtain ⟨es,clock,rfl,he⟩:=H
 have hb:=hst.left.sat.pt.2
 have hg:=MapKept.run_getObj_map (P:=P) hb
 have hfk:=ρ.find w k es.toList l he
 cases hr:findP k l 0 with
 | none =>
  rw [hr] at hfk
  have hs:=hst.set (o':=.map (es.push { key:=ρ.enc k,val:=v,born:=clock }) (clock+1)) (w':={ w with heap:=w.heap.setIfInBounds b (.map (es.push { key:=ρ.enc k,val:=v,born:=clock }) (clock+1)) }) (MapKept.heap_set hb).1 (MapKept.heap_set hb).2 (by simp) M M M
  refine ⟨undef,_,_,.inr ⟨?_,rfl⟩,⟨_,⟨es.push { key:=ρ.enc k,val:=v,born:=clock },clock+1,rfl,?_⟩,rfl⟩,hs⟩
  ·unfold execOp
   simp only [ho,ha.ev hx,ha.ev hix,ha.ev hy]
   simp [Instr.mapUpdate,run_underlying hu.out,hg,ρ.check,hfk,MapKept.run_setObj_map _ hb]
  ·rw [updA_none hr]; simp [he]
 | some p =>
  rw [hr] at hfk
  obtain ⟨j,u⟩:=p
  obtain ⟨m,h1,h2⟩:=findP_some hr
  obtain rfl:j=m:=by omega
  have hel:(es.toList.map fun e=>(e.key,e.val))[j]?=some (ρ.enc k,u):=by rw [he,List.getElem?_map,h2]; rfl
  obtain ⟨en,hen,hen2⟩:∃ en,es.toList[j]?=some en∧(en.key,en.val)=(ρ.enc k,u):=by
   rw [List.getElem?_map] at hel
   cases h3:es.toList[j]? with
   | none=>rw [h3] at hel; cases hel
   | some en=>rw [h3] at hel; exact ⟨en,rfl,by simpa using hel⟩
  have hen':es[j]?=some en:=by simpa using hen
  simp only [Prod.mk.injEq] at hen2
  have hst2:=ρ.stays w k
  have hs:=hst.set (o':=.map (es.modify j fun e=>{ e with key:=ρ.enc k,val:=v }) clock) (w':={ w with heap:=w.heap.setIfInBounds b (.map (es.modify j fun e=>{ e with key:=ρ.enc k,val:=v }) clock) }) (MapKept.heap_set hb).1 (MapKept.heap_set hb).2 (by simp) M M M
  refine ⟨undef,_,_,.inr ⟨?_,rfl⟩,⟨_,⟨es.modify j fun e=>{ e with key:=ρ.enc k,val:=v },clock,rfl,?_⟩,rfl⟩,hs⟩
  ·unfold execOp
   simp only [ho,ha.ev hx,ha.ev hix,ha.ev hy]
   simp [Instr.mapUpdate,run_underlying hu.out,hg,ρ.check,hfk,hen',hen2.1,hst2,MapKept.run_setObj_map _ hb]
  ·rw [updA_some (i:=0) (n:=j) (u:=u) (by rw [hr]; simp)]
   apply List.ext_getElem?
   intro q
   have hq:(es.toList.map fun e=>(e.key,e.val))[q]?=(l.map fun p=>(ρ.enc p.1,p.2))[q]?:=by rw [he]
   simp only [List.getElem?_map,Array.getElem?_toList,Array.getElem?_modify,List.getElem?_set] at hq ⊢
   by_cases hjq:j=q
   ·subst hjq
    rw [if_pos M,if_pos M,hen']
    have:j<l.length:=(List.getElem?_eq_some_iff.1 h2).1
    rw [if_pos this]; rfl
   ·rw [if_neg hjq,if_neg hjq,hq]
theorem pv_len_map {t kt' e:TypeId} [hu:Und P t (.map kt' e)] {x:Operand} {b:Nat} {l:List (κ × Value)} {h R:Hp} (hx:ev g x=some (.map (some b))) (H:qT P b l h) [hf:yJ h L R] :
  EV P w0 L g (.call { callee:=.builtin .len,args:=#[x],argTypes:=#[t] }) fun u L'=>u=.int .i64 l.length∧L'=L:=by
 intro o a w n ho ha hst
 have e:=hf.out
 obtain ⟨es,clock,hb,he⟩:=H.heap (R:=R) (w:=w) (w0:=w0) (by rw [← e]; exact hst)
 refine ⟨_,w,L,.inl ?_,⟨rfl,rfl⟩,hst⟩
 have hlen:es.size=l.length:=by have:=congrArg List.length he; simpa using this
 have hg:=MapKept.run_getObj_map (P:=P) hb
 unfold execOp
 simp [ho,resolve,invoke,builtin,ha.ev hx,Builtin.lenOf,Builtin.len_,run_underlying hu.out,hg,goInt,hlen]
end
section
variable {P:Program}
@[instance_reducible] def keyInt {t:TypeId} (hu:P.underlying t=some (.int .i64)):KeyT P Int where
 kt:=t
 enc:=fun n=>.int .i64 n
 check:=fun e w x=>MapKept.run_checkKey hu (show MapKept.IsKey (.int .i64) (.int .i64 x) by simp only [MapKept.IsKey]) e 9999
 find:=fun w x es l he=>MapKept.run_findKey hu (by
  revert l
  suffices ∀ (i:Nat) (l:List (Int × Value)),(es.map fun e=>(e.key,e.val))=l.map (fun p=>(Value.int .i64 p.1,p.2))→Instr.findNow (.int .i64) (.int .i64 x) es i=some (findP x l i) from fun l=>this 0 l
  induction es with
  | nil=>intro i l h; cases l with
   | nil=>rfl
   | cons=>cases h
  | cons e es ih=>intro i l h; cases l with
   | nil=>cases h
   | cons p l =>
    simp only [List.map_cons,List.cons.injEq,Prod.mk.injEq] at h
    obtain ⟨⟨h1,h2⟩,h3⟩:=h
    have hs:Instr.sameNow (.int .i64) (.int .i64 x) e.key=some (x==p.1):=by rw [h1]; rfl
    simp only [Instr.findNow,hs,findP]
    by_cases hx:x=p.1
    ·rw [if_pos hx,beq_iff_eq.2 hx,h2]
    ·rw [if_neg hx,beq_eq_false_iff_ne.2 hx]; exact ih (i+1) l h3)
 stays:=fun w x=>MapKept.run_keyThatStays (d:=.int .i64) (k:=.int .i64 x) (by simp only [MapKept.IsKey])
end
section
variable {P:Program}
theorem sameNow_struct {fs:Array Field} (a b:Value):Instr.sameNow (.struct fs) a b=none:=by cases a<;>cases b<;>rfl
theorem findNow_struct {fs:Array Field} (x:Value):∀ {es:List MapEntry} {i:Nat},es≠[]→Instr.findNow (.struct fs) x es i=none
 | [],_,h=>absurd M h
 | e::es,i,_=>by simp only [Instr.findNow,sameNow_struct]
abbrev enc3 (x:Int × Int × Int):Value:=.agg [.int .i64 x.1,.int .i64 x.2.1,.int .i64 x.2.2].toArray
theorem check3 {t:TypeId} {f0 f1 f2:Field} (hu:P.underlying t=some (.struct [f0,f1,f2].toArray)) (h0:P.underlying f0.type=some (.int .i64)) (h1:P.underlying f1.type=some (.int .i64)) (h2:P.underlying f2.type=some (.int .i64))
  (o0:f0.offset=0) (o1:f1.offset=1) (o2:f2.offset=2) (e:Bool) (w:World) (x:Int × Int × Int):(Instr.checkKey e 10000 t (enc3 x)).run P w=.ok () w:=by
 have hc:∀ (f:Field) (v:Int),P.underlying f.type=some (.int .i64)→(Instr.checkKey e 9999 f.type (.int .i64 v)).run P w=.ok () w:=fun f v h=>MapKept.run_checkKey h (show MapKept.IsKey (.int .i64) (.int .i64 v) by simp only [MapKept.IsKey]) e 9998
 have c0:=hc f0 x.1 h0
 have c1:=hc f1 x.2.1 h1
 have c2:=hc f2 x.2.2 h2
 unfold Instr.checkKey
 simp only [Sem.run_bind,run_underlying hu,Result.andThen]
 simp [part,isAgg,run_underlying h0,run_underlying h1,run_underlying h2,o0,o1,o2,c0,c1,c2]
theorem stays3 (w:World) (x:Int × Int × Int):(Instr.keyThatStays (enc3 x) (enc3 x)).run P w=.ok (enc3 x) w:=by
 simp [Instr.keyThatStays,Instr.sameBits,enc3]
theorem asking3 {t:TypeId} {f0 f1 f2:Field} (hu:P.underlying t=some (.struct [f0,f1,f2].toArray)) (h0:P.underlying f0.type=some (.int .i64)) (h1:P.underlying f1.type=some (.int .i64)) (h2:P.underlying f2.type=some (.int .i64))
  (o0:f0.offset=0) (o1:f1.offset=1) (o2:f2.offset=2) (n0:(f0.name == "_")=false) (n1:(f1.name == "_")=false) (n2:(f2.name == "_")=false) (hp:P.stoodInHeld t=false) (w:World) (x:Int × Int × Int) :
  ∀ (es:List MapEntry) (i:Nat) (l:List ((Int × Int × Int) × Value)),(es.map fun e=>(e.key,e.val))=l.map (fun p=>(enc3 p.1,p.2))→(Instr.findAsking t (enc3 x) es i).run P w=.ok (findP x l i) w:=by
 intro es
 induction es with
 | nil=>intro i l h; cases l with
  | nil=>rfl
  | cons=>cases h
 | cons e es ih=>intro i l h; cases l with
  | nil=>cases h
  | cons p l =>
   simp only [List.map_cons,List.cons.injEq,Prod.mk.injEq] at h
   obtain ⟨⟨k1,k2⟩,k3⟩:=h
   have hf:P.fieldsOf t=[f0,f1,f2].toArray:=by simp [Program.fieldsOf,hu]
   have hu':P.underlying t=some (.struct (P.fieldsOf t)):=by rw [hf]; exact hu
   have heq:=run_equalIn_agg (P:=P) w 9999 t [.int .i64 x.1,.int .i64 x.2.1,.int .i64 x.2.2].toArray [.int .i64 p.1.1,.int .i64 p.1.2.1,.int .i64 p.1.2.2].toArray hu' hp
   have hfe:fieldsEq P [Value.int .i64 x.1,.int .i64 x.2.1,.int .i64 x.2.2].toArray [Value.int .i64 p.1.1,.int .i64 p.1.2.1,.int .i64 p.1.2.2].toArray [f0,f1,f2]=some (decide (x.1=p.1.1)&&(decide (x.2.1=p.1.2.1)&&(decide (x.2.2=p.1.2.2)&&true))):=by
    simp [fieldsEq,n0,n1,n2,cellEq,h0,h1,h2,o0,o1,o2]
   rw [hf,run_fieldsEq 9998 w hfe] at heq
   have hd:(decide (x.1=p.1.1)&&(decide (x.2.1=p.1.2.1)&&(decide (x.2.2=p.1.2.2)&&true)))=decide (x=p.1):=by
    obtain ⟨a,b,c⟩:=x; obtain ⟨⟨a',b',c'⟩,v⟩:=p
    simp only [Bool.and_true,Prod.mk.injEq,Bool.decide_and]
   rw [hd] at heq
   have hee:(Op.equal t (enc3 x) e.key).run P w=.ok (decide (x=p.1)) w:=by rw [k1]; exact heq
   unfold Instr.findAsking
   simp only [Sem.run_bind,hee,Result.andThen_ok,findP]
   by_cases hx:x=p.1
   ·simp [hx,k2]
   ·simp only [hx,decide_false,Bool.false_eq_true,if_false]; exact ih (i+1) l k3
@[instance_reducible] def key3 {t:TypeId} {f0 f1 f2:Field} (hu:P.underlying t=some (.struct [f0,f1,f2].toArray)) (h0:P.underlying f0.type=some (.int .i64)) (h1:P.underlying f1.type=some (.int .i64)) (h2:P.underlying f2.type=some (.int .i64))
  (o0:f0.offset=0) (o1:f1.offset=1) (o2:f2.offset=2) (n0:(f0.name == "_")=false) (n1:(f1.name == "_")=false) (n2:(f2.name == "_")=false) (hp:P.stoodInHeld t=false):KeyT P (Int × Int × Int) where
 kt:=t
 enc:=enc3
 check:=check3 hu h0 h1 h2 o0 o1 o2
 find:=fun w x es l he=>by
  unfold Instr.findKey
  simp only [Sem.run_bind,run_underlying hu,Result.andThen_ok]
  cases es with
  | nil=>cases l with
   | nil=>rfl
   | cons=>cases he
  | cons e es =>
   rw [findNow_struct _ (by simp)]
   exact asking3 hu h0 h1 h2 o0 o1 o2 n0 n1 n2 hp w x (e::es) 0 l he
 stays:=stays3
end
end Sl
end Go.Proofs.YtfahijncpmlhjaaGreat
namespace Go.Proofs
open Go.Shelf
def Tryz.lays189_ren :Go.Shelf.Ren:=⟨fun|189=>210|125=>283|257=>282|128=>341|129=>342|294=>332|295=>333|296=>334|297=>335|298=>336|299=>337|216=>338|300=>339|301=>340|328=>358|329=>359|330=>360|331=>361|332=>362|215=>224|343=>367|n=>n,fun|28=>61|3=>3|46=>148|0=>0|51=>235|53=>153|4=>4|183=>324|182=>323|131=>222|5=>5|9=>9|218=>338|222=>157|228=>346|229=>347|n=>n,fun|n=>n⟩
theorem Tryz.lays189 :Go.Proofs.Lays.n189 Tryz.prog Tryz.lays189_ren:={
 mixed:=by kernel_rfl
 f125:=Tryz.func283.trans (congrArg some (by kernel_rfl))
 f128:=Tryz.func341.trans (congrArg some (by kernel_rfl))
 f129:=Tryz.func342.trans (congrArg some (by kernel_rfl))
 f189:=Tryz.func210.trans (congrArg some (by kernel_rfl))
 f215:=Tryz.func224.trans (congrArg some (by kernel_rfl))
 f216:=Tryz.func338.trans (congrArg some (by kernel_rfl))
 f257:=Tryz.func282.trans (congrArg some (by kernel_rfl))
 f294:=Tryz.func332.trans (congrArg some (by kernel_rfl))
 f295:=Tryz.func333.trans (congrArg some (by kernel_rfl))
 f296:=Tryz.func334.trans (congrArg some (by kernel_rfl))
 f297:=Tryz.func335.trans (congrArg some (by kernel_rfl))
 f298:=Tryz.func336.trans (congrArg some (by kernel_rfl))
 f299:=Tryz.func337.trans (congrArg some (by kernel_rfl))
 f300:=Tryz.func339.trans (congrArg some (by kernel_rfl))
 f301:=Tryz.func340.trans (congrArg some (by kernel_rfl))
 f328:=Tryz.func358.trans (congrArg some (by kernel_rfl))
 f329:=Tryz.func359.trans (congrArg some (by kernel_rfl))
 f330:=Tryz.func360.trans (congrArg some (by kernel_rfl))
 f331:=Tryz.func361.trans (congrArg some (by kernel_rfl))
 f332:=Tryz.func362.trans (congrArg some (by kernel_rfl))
 f343:=Tryz.func367.trans (congrArg some (by kernel_rfl))
 t0:=Tryz.underlying0
 a0:=Tryz.isAgg0
 z0:=Tryz.sizeOf0
 v0:=Tryz.zeroValue0
 t3:=Tryz.underlying3
 a3:=Tryz.isAgg3
 z3:=Tryz.sizeOf3
 v3:=Tryz.zeroValue3
 t4:=Tryz.underlying4
 a4:=Tryz.isAgg4
 z4:=Tryz.sizeOf4
 v4:=Tryz.zeroValue4
 t5:=Tryz.underlying5
 a5:=Tryz.isAgg5
 z5:=Tryz.sizeOf5
 v5:=Tryz.zeroValue5
 t9:=Tryz.underlying9
 a9:=Tryz.isAgg9
 z9:=Tryz.sizeOf9
 v9:=Tryz.zeroValue9
 t28:=Tryz.underlying61
 a28:=Tryz.isAgg61
 z28:=Tryz.sizeOf61
 v28:=Tryz.zeroValue61
 t46:=Tryz.underlying148
 a46:=Tryz.isAgg148
 z46:=Tryz.sizeOf148
 v46:=Tryz.zeroValue148
 t51:=Tryz.underlying235
 a51:=Tryz.isAgg235
 z51:=Tryz.sizeOf235
 v51:=Tryz.zeroValue235
 t53:=Tryz.underlying153
 a53:=Tryz.isAgg153
 z53:=Tryz.sizeOf153
 v53:=Tryz.zeroValue153
 t131:=Tryz.underlying222
 a131:=Tryz.isAgg222
 z131:=Tryz.sizeOf222
 v131:=Tryz.zeroValue222
 t182:=Tryz.underlying323
 a182:=Tryz.isAgg323
 z182:=Tryz.sizeOf323
 v182:=Tryz.zeroValue323
 t183:=Tryz.underlying324
 a183:=Tryz.isAgg324
 z183:=Tryz.sizeOf324
 v183:=Tryz.zeroValue324
 t218:=Tryz.underlying338
 a218:=Tryz.isAgg338
 z218:=Tryz.sizeOf338
 v218:=Tryz.zeroValue338
 t222:=Tryz.underlying157
 a222:=Tryz.isAgg157
 z222:=Tryz.sizeOf157
 v222:=Tryz.zeroValue157
 t228:=Tryz.underlying346
 a228:=Tryz.isAgg346
 z228:=Tryz.sizeOf346
 v228:=Tryz.zeroValue346
 t229:=Tryz.underlying347
 a229:=Tryz.isAgg347
 z229:=Tryz.sizeOf347
 v229:=Tryz.zeroValue347 }
open Go.Sort Go.RowKit in
theorem Tryz.slices_Sort_int (blk off cap:Nat) (zs:List Int) (w:World) (hH:Holds (Value.int .i64) w blk off zs.toArray) (hblk:blk<w.heap.size) (hsz:zs.length<4611686018427387904) :
  Calls Tryz.prog 210 #[.slice (some ⟨blk,off,none⟩) zs.length cap] w fun e w' =>
   e=.returned (.tuple #[])∧∃ n os,w'=grow (putRow (Value.int .i64) (Sort.ahead w n) blk off (zs.mergeSort fun x y=>decide (x≤y)).toArray) os:=Any.slices_Sort_int Tryz.lays189 blk off cap zs w hH hblk hsz
def Tryz.laysNm220_ren :Go.Shelf.Ren:=⟨fun|20=>211|n=>n,fun|22=>61|3=>3|4=>4|0=>0|n=>n,fun|n=>n⟩
theorem Tryz.laysNm220 :Go.Proofs.Lays2.n20 Tryz.prog Tryz.laysNm220_ren:={
 mixed:=by kernel_rfl
 f20:=Tryz.func211.trans (congrArg some (by kernel_rfl))
 t0:=Tryz.underlying0
 a0:=Tryz.isAgg0
 z0:=Tryz.sizeOf0
 v0:=Tryz.zeroValue0
 t3:=Tryz.underlying3
 a3:=Tryz.isAgg3
 z3:=Tryz.sizeOf3
 v3:=Tryz.zeroValue3
 t4:=Tryz.underlying4
 a4:=Tryz.isAgg4
 z4:=Tryz.sizeOf4
 v4:=Tryz.zeroValue4
 t22:=Tryz.underlying61
 a22:=Tryz.isAgg61
 z22:=Tryz.sizeOf61
 v22:=Tryz.zeroValue61
 i3:=by kernel_rfl }
open Go.RowKit Go.Lib Go.Sort in
theorem Tryz.slices_Compact_int_arr (blk off cap:Nat) (d:Array Int) (w:World) (hH:Holds encI w blk off d) (hsz:d.size≤9223372036854775807) (hcap:d.size≤cap) :
  Calls Tryz.prog 211 #[.slice (some ⟨blk,off,none⟩) d.size cap] w fun e w'=>e=.returned (.slice (some ⟨blk,off,none⟩) (compactUpTo d d.size).length cap)∧∃ q,w'=putRow encI (Sort.ahead w q) blk off (compactUpTo d d.size++List.replicate (d.size - (compactUpTo d d.size).length) 0).toArray:=Any.slices_Compact_int_arr Tryz.laysNm220 blk off cap d w hH hsz hcap
open Go.RowKit Go.Lib Go.Sort in
theorem Tryz.slices_Compact_int (blk off cap:Nat) (zs:List Int) (w:World) (hH:Holds (Value.int .i64) w blk off zs.toArray) (hsz:zs.length≤9223372036854775807) (hcap:zs.length≤cap) :
  Calls Tryz.prog 211 #[.slice (some ⟨blk,off,none⟩) zs.length cap] w fun e w'=>e=.returned (.slice (some ⟨blk,off,none⟩) (Lib.compact zs).length cap)∧∃ q,w'=putRow (Value.int .i64) (Sort.ahead w q) blk off (Lib.compact zs++List.replicate (zs.length - (Lib.compact zs).length) 0).toArray:=Any.slices_Compact_int Tryz.laysNm220 blk off cap zs w hH hsz hcap
open Go.RowKit Go.Lib Go.Sort in
theorem Tryz.slices_Compact_int_empty (a:Option Addr) (cap:Nat) (w:World) :
  Calls Tryz.prog 211 #[.slice a 0 cap] w fun e w'=>e=.returned (.slice a 0 cap)∧w'=w:=Any.slices_Compact_int_empty Tryz.laysNm220 a cap w
open Go.RowKit Go.Sort in
theorem Tryz.slices_Sort_int_none (p:Option Addr) (cap:Nat) (w:World) :
  Calls Tryz.prog 210 #[.slice p 0 cap] w fun e w'=>e=.returned (.tuple #[])∧w'=w:=Any.slices_Sort_int_none Tryz.lays189 p cap w
end Go.Proofs
namespace Go.Proofs.YtfahijncpmlhjaaGreat
open Go Go.RowKit
namespace Sl
theorem St.grow {w0 w:World} {L:Hp} (h:St w0 w L) (os:Array Obj):St w0 (Sort.grow w os) L :=
 ⟨h.below.trans ⟨rfl,rfl,rfl,by simp [Sort.grow],fun k hk=>by
  have:k<w.heap.size:=Nat.lt_of_lt_of_le hk h.below.size
  simp only [Sort.grow]
  rw [Array.getElem?_append_left this]⟩,h.sat.mono fun k _ hk=>by simp only [Sort.grow]; rw [Array.getElem?_append_left hk]⟩
theorem flat1 (l:List Int):(bN l).flatten=l.map (Value.int .i64):=by
 induction l with
 | nil=>rfl
 | cons x l ih=>simp only [bN,List.map_cons,List.flatten_cons] at ih ⊢; rw [ih]; rfl
theorem putCells_row (d:List Int) (old spare:List Value) (h:old.length=d.length) :
  Sort.putCells (Value.int .i64) 0 d.toArray (old++spare).toArray=(d.map (Value.int .i64)++spare).toArray:=by
 apply Array.ext'
 apply List.ext_getElem?
 intro k
 simp only [Sort.putCells,Array.toList_mapIdx,List.getElem?_mapIdx,List.size_toArray,Nat.zero_le,Nat.zero_add,true_and,Nat.sub_zero]
 by_cases hk:k<d.length
 ·rw [List.getElem?_append_left (by omega),List.getElem?_append_left (by simpa using hk),List.getElem?_eq_getElem (by omega)]
  simp [hk]
 ·rw [List.getElem?_append_right (by omega),List.getElem?_append_right (by simpa using hk),List.length_map,h]
  cases spare[k - d.length]?<;>simp [hk]
theorem St.row {w0 w:World} {b:Nat} {old spare:List Value} {e:TypeId} {R:Hp} (h:St w0 w (pt b (.cells (old++spare).toArray e (0,0))+R)) (n:Nat) (d:List Int) (hd:old.length=d.length) :
  St w0 (Sort.putRow (Value.int .i64) (Sort.ahead w n) b 0 d.toArray) (pt b (.cells (d.map (Value.int .i64)++spare).toArray e (0,0))+R):=by
 have hh:=h.sat.left.pt.2
 refine h.set (o':=.cells (d.map (Value.int .i64)++spare).toArray e (0,0)) ?_ (fun k hk=>?_) ?_ rfl M M
 ·show ((Sort.ahead w n).heap.modify b _)[b]?=_
  rw [Array.getElem?_modify,if_pos M,show (Sort.ahead w n).heap=w.heap from rfl,hh]
  simp only [Option.map_some,Sort.onCells]
  rw [putCells_row d old spare hd]
 ·show ((Sort.ahead w n).heap.modify b _)[k]?=_
  rw [Array.getElem?_modify,if_neg (Ne.symm hk)]; rfl
 ·show w.heap.size≤((Sort.ahead w n).heap.modify b _).size
  rw [Array.size_modify]; exact Nat.le_refl _
theorem holds_row {w0 w:World} {b:Nat} {zs:List Int} {spare:List Value} {e:TypeId} {R:Hp} (h:St w0 w (pt b (.cells ((bN zs).flatten++spare).toArray e (0,0))+R)):Sort.Holds (Value.int .i64) w b 0 zs.toArray:=by
 have hh:=h.sat.left.pt.2
 intro j hj
 have hj':j<zs.length:=by simpa using hj
 refine ⟨?_,by simp [World.frozen?,hh]⟩
 rw [flat1] at hh
 simp only [World.cell?,hh,Nat.zero_add]
 rw [List.getElem?_toArray,List.getElem?_append_left (by simpa using hj')]
 simp [hj']
def sortI (zs:List Int):List Int:=zs.mergeSort fun x y=>decide (x≤y)
theorem uS (zs:List Int):(sortI zs).length=zs.length:=by simp [sortI]
theorem sort_spec (w0:World) (v:Value) (zs:List Int) (h:Hp) (hr:gH 3 1 (bN zs) v h) (hl:zs.length≤1000000000) :
  yO Tryz.prog w0 210 [v] h (fun r h'=>gH 3 1 (bN (sortI zs)) v h'):=by
 intro w fr hst
 by_cases hz:zs=[]
 ·subst hz
  obtain ⟨a,c,rfl⟩:=hr.shape
  refine (Tryz.slices_Sort_int_none a c w).mono ?_
  rintro e w' ⟨rfl,rfl⟩
  exact ⟨_,h,rfl,by show gH _ _ (bN (sortI [])) _ _; rw [show sortI []=[] by simp [sortI]]; exact hr,hst⟩
 ·obtain ⟨b,cap,spare,rfl,rfl,hes,hcap,hmax,hsp⟩:=hr.nonempty (by intro e; rw [← List.length_eq_zero_iff,kM] at e; exact hz (List.eq_nil_of_length_eq_zero e))
  rw [kM] at *
  have hh:=hst.sat.left.pt.2
  refine (Tryz.slices_Sort_int b 0 cap zs w (holds_row hst) (Array.getElem?_eq_some_iff.1 hh).1 (by omega)).mono ?_
  rintro e w' ⟨rfl,n,os,rfl⟩
  have hst2:=(hst.row n (sortI zs) (by rw [flat1,List.length_map,uS])).grow os
  rw [← flat1] at hst2
  refine ⟨_,_,rfl,?_,hst2⟩
  have:=jH (E:=3) (b:=b) (cap:=cap) (spare:=spare) (bL (sortI zs)) (by rw [kM,uS]; exact hcap) hmax (by rw [kM,uS]; exact hsp)
  rwa [kM,uS] at this
def compI (zs:List Int):List Int:=Lib.compact zs
theorem compI_le (zs:List Int):(compI zs).length≤zs.length:=by
 unfold compI Lib.compact Lib.compactUpTo
 rw [List.length_map]
 exact Nat.le_trans (List.length_filter_le _ _) (by simp)
theorem compact_spec (w0:World) (v:Value) (zs:List Int) (h:Hp) (hr:gH 3 1 (bN zs) v h) (hl:zs.length≤1000000000) :
  yO Tryz.prog w0 211 [v] h (fun r h'=>gH 3 1 (bN (compI zs)) r h'):=by
 intro w fr hst
 by_cases hz:zs=[]
 ·subst hz
  obtain ⟨a,c,rfl⟩:=hr.shape
  refine (Tryz.slices_Compact_int_empty a c w).mono ?_
  rintro e w' ⟨rfl,rfl⟩
  exact ⟨_,h,rfl,hr,hst⟩
 ·obtain ⟨b,cap,spare,rfl,rfl,hes,hcap,hmax,hsp⟩:=hr.nonempty (by intro e; rw [← List.length_eq_zero_iff,kM] at e; exact hz (List.eq_nil_of_length_eq_zero e))
  rw [kM] at *
  refine (Tryz.slices_Compact_int b 0 cap zs w (holds_row hst) (by omega) hcap).mono ?_
  rintro e w' ⟨rfl,q,rfl⟩
  have hle:=compI_le zs
  have hst2:=hst.row q (compI zs++List.replicate (zs.length - (compI zs).length) 0) (by rw [flat1,List.length_map,List.length_append,List.length_replicate]; omega)
  rw [List.map_append,← flat1,List.append_assoc] at hst2
  refine ⟨_,_,rfl,?_,hst2⟩
  have:=jH (E:=3) (b:=b) (cap:=cap) (spare:=(List.replicate (zs.length - (compI zs).length) (0:Int)).map (Value.int .i64)++spare) (bL (compI zs)) (by rw [kM]; omega) hmax
   (by rw [kM,List.length_append,List.length_map,List.length_replicate,hsp]; omega)
  rwa [kM] at this
deriving instance DecidableEq for Rng
structure Prm where
 src:Int
 index:Int
 value:Int
deriving DecidableEq
structure Coo where
 me:Int
 txn:Int
 parts:List Int
 acc:Int
 accepted:List ((Int × Int × Int) × List (Int × Int))
 chosen:List (Int × Int)
 started:Bool
 number:Int
 promised:List (Int × List Prm)
 proposed:List (Int × Int)
 top:Int
abbrev msg0 (kind part value:Int):Msg:=⟨kind,0,0,0,0,0,0,0,0,0,part,0,value,0,false,[],[]⟩
def dW (l:List (Int × Int)) (k:Int):Int:=(jU l k).getD 0
def startC (k:Coo) (n:Int):Coo:={ k with started:=true,number:=n,promised:=[],proposed:=[] }
def startL (k:Coo) (n:Int):List Msg:=(k.parts.filter (fun p=>dW k.chosen p=0)).flatMap fun p=>allF k.me k.txn n (msg0 8 p 0) k.acc.toNat
def accC (k:Coo) (m:Msg):Coo :=
 if m.value≠1∧m.value≠2 then k else
 let i:=wC ((jU k.accepted (m.part,m.ballot,m.value)).getD []) m.src 1
 let k1:={ k with accepted:=wC k.accepted (m.part,m.ballot,m.value) i }
 if k.acc<2*(i.length:Int) then { k1 with chosen:=wC k.chosen m.part (max (dW k.chosen m.part) m.value) } else k1
def bestV :List Prm→Int × Int→Int × Int
 | [],p=>p
 | x::l,p=>bestV l (if (x.value=1∨x.value=2)∧(p.1=0∨p.2<x.index) then (x.value,x.index) else p)
def propV (l:List Prm):Int:=if (bestV l (0,0)).1=0 then 2 else (bestV l (0,0)).1
def bF (k:Coo) (m:Msg):Coo × List Msg :=
 if k.started=false∨m.ballot≠k.number∨0<dW k.proposed m.part then (k,[]) else
 let l:=(jU k.promised m.part).getD []
 if l.any (fun p=>p.src=m.src) then (k,[]) else
 let l2:=l++[⟨m.src,m.index,m.value⟩]
 let k1:={ k with promised:=wC k.promised m.part l2 }
 if 2*(l2.length:Int)≤k.acc then (k1,[]) else
 ({ k1 with proposed:=wC k.proposed m.part 1 },allF k.me k.txn k.number (msg0 10 m.part (propV l2)) k.acc.toNat)
def kX (k:Coo) (m:Msg):Coo × List Msg :=
 if m.txn≠k.txn∨m.src<1∨k.acc<m.src∨m.part∉k.parts then (k,[]) else
 if m.kind≠11∧m.kind≠9 then (k,[]) else
 if m.ok=false then ({ k with top:=max k.top m.index },[]) else
 if m.kind=11 then (accC k m,[]) else bF k m
def valL (ch:List (Int × Int)):List Int→Int→Int
 | [],v=>v
 | p::l,v=>if dW ch p=2 then 2 else valL ch l (if dW ch p=0 then 0 else v)
def valueC (k:Coo):Int:=valL k.chosen k.parts 1
def newC (me txn:Int) (parts:List Int) (acc:Int):Coo:=⟨me,txn,parts,acc,[],[],false,0,[],[],0⟩
def risesF :List Int→Int→Bool
 | [],_=>true
 | p::l,last=>decide (last<p∧p≤4)&&risesF l p
def newOk (me txn:Int) (parts:List Int) (acc:Int):Bool :=
 decide (1≤me∧me≤199∧1≤txn∧txn≤1099511627776∧parts≠[]∧1≤acc∧acc≤7∧acc % 2≠0)&&risesF parts 0
def newO (me txn:Int) (parts:List Int) (acc:Int):Option Coo:=if newOk me txn parts acc=true then some (newC me txn parts acc) else none
structure Spn where
 lo:Int
 hi:Int
structure Dbt where
 id:Int
 parts:List Int
 groups:List Int
structure Txn where
 id:Int
 age:Int
 reads:List Bof
 asked:List Int
 writes:List Wr
 parts:List Int
 slo:Int
 shi:Int
structure Mpp where
 rngs:List Rng
 epoch:Int
 m1:Int
 m2:Int
 m3:Int
 m4:Int
 m5:Int
structure Cal where
 kind:Int
 block:Int
 set:Int
 snap:Int
 txn:Int
 src:Int
 dst:Int
 lo:Int
 hi:Int
 group:Int
 node:Int
 value:Int
inductive Hrd where
 | quiet
 | look
 | read (block:Int)
 | part (o:Opn) (group:Int)
 | kept (x:Cal)
 | plan (x:Cal)
 | frz (x:Cal) (epoch:Int)
 | inst (x:Cal) (epoch:Int)
 | fin (x:Cal) (epoch:Int)
 | change (x:Cal)
inductive Wts where
 | read (x:Cal)
 | prep
 | snap
 | kept (x:Cal)
 | again (x:Cal)
structure Rq where
 group:Nat
 o:Opn
 frm:Int
 sent:Int
 tidy:Bool
 heard:Hrd
structure Pkt where
 src:Int
 dst:Int
 bytes:List Bt
structure Cl where
 nodes:Int
 accs:Int
 clis:Int
 nmem:Nat
 sets:List Spn
 id:Int
 addr:Int
 clock:Int
 seq:Int
 txns:Int
 m:Mpp
 stale:Bool
 guess:List Int
 ended:List (Int × Int)
 doubts:List Dbt
 round:Int
 reqs:List Rq
 cur:Txn
 opn:Bool
 own:Bool
 busy:Bool
 kind:Int
 since:Int
 waits:Option Wts
 coord:Option Coo
 about:Int
 started:Int
 out:List Pkt
 ans:Ans
 answered:Bool
abbrev op0 (kind:Int):Opn:=⟨kind,0,0,0,0,0,0,0,0,0,0,0,0,[],[],[],[]⟩
def pkB (m:Msg):List Bt:=vC (dF m)++dF m
def putF (c:Cl) (m:Msg):Cl :=
 let m:={ m with src:=c.addr }
 if jA m=0∧(dF m).length≤65536 then { c with out:=c.out++[⟨c.addr,m.dst,pkB m⟩] } else c
def wW (c:Cl) (l:List Msg):Cl:=l.foldl putF c
def vO (c:Cl) (g:Nat):Int:=c.guess.getD g 0
def askM (c:Cl) (r:Rq):Msg:=⟨6,0,vO c r.group,r.group,0,0,0,0,0,0,0,0,0,r.o.seq,false,[],putO r.o⟩
def gW (c:Cl) (i:Nat):Cl:={ c with reqs:=c.reqs.modify i fun r=>{ r with sent:=c.clock } }
def wZ (c:Cl) (i:Nat):Cl:=match c.reqs[i]? with
 | none=>c
 | some r=>if jF r.o=0 then putF (gW c i) (askM c r) else gW c i
def xA (l:List Rq):List Nat:=(List.range l.length).filter fun i=>match l[i]? with
 | none=>false
 | some r=>(l.take i).all fun q=>q.group≠r.group
def dueF (c:Cl) (i:Nat):Bool:=match c.reqs[i]? with
 | none=>false
 | some r=>decide (r.sent<0∧r.frm≤c.clock)
def wP (c:Cl) (l:List Nat):Cl:=l.foldl (fun c i=>if dueF c i=true then wZ c i else c) c
def vV (c:Cl):Cl:=wP c (xA c.reqs)
def ans0 :Ans:=⟨0,0,[]⟩
def dO (c:Cl):Cl:={ vV c with out:=[],ans:=ans0,answered:=false }
abbrev reqF (c:Cl) (g:Nat) (o:Opn) (later:Int) (tidy:Bool) (h:Hrd):Rq:=⟨g,{ o with client:=c.id,seq:=c.seq+1 },c.clock+later,-1,tidy,h⟩
def qJ (c:Cl) (g:Nat) (o:Opn) (later:Int) (tidy:Bool) (h:Hrd):Cl:={ c with seq:=c.seq+1,reqs:=c.reqs++[reqF c g o later tidy h] }
def quietF (c:Cl) (g:Nat) (o:Opn):Cl:=qJ c g o 0 true .quiet
def sayF (c:Cl) (a:Ans):Cl:={ c with busy:=false,own:=false,waits:=none,ans:=a,answered:=true }
def jC (c:Cl) (e:Int):Cl:=sayF c ⟨e,0,[]⟩
def kR (c:Cl):Cl:={ c with reqs:=c.reqs.filter (·.tidy) }
theorem mem_compI {x:Int} {l:List Int} (h:x∈compI l):x∈l:=by
 unfold compI Lib.compact Lib.compactUpTo at h
 obtain ⟨i,hi,rfl⟩:=List.mem_map.1 h
 have hi:=(List.mem_filter.1 hi).1
 rw [List.mem_range] at hi
 simp [hi]
def xH (t:Txn):List Int:=compI (sortI (t.parts++t.asked))
theorem mem_groupsF {x:Int} {t:Txn} (h:x∈xH t):x∈t.parts++t.asked:=List.mem_mergeSort.1 (mem_compI h)
def endOp (id value:Int):Opn:=⟨3,0,0,id,0,0,0,0,0,0,value,0,0,[],[],[],[]⟩
def wY (c:Cl) (o:Opn) (l:List Int):Cl:=l.foldl (fun c g=>quietF c g.toNat o) c
def jZ (c:Cl) (id:Int) (groups:List Int) (value:Int):Cl:=wY { c with ended:=wC c.ended id value } (endOp id value) groups
def lookF (c:Cl) (later:Int):Cl:=qJ c 0 (op0 8) later true .look
def wF (c:Cl):Cl:=if c.stale=true then c else lookF { c with stale:=true } 0
def noT :Txn:=⟨0,0,[],[],[],[],0,0⟩
def kW (c:Cl):Cl:={ c with txns:=c.txns+1,cur:={ noT with id:=c.id*1048576+(c.txns+1),age:=c.clock*8+c.id } }
def lostF (c:Cl) (e:Int):Cl :=
 let c1:=if e=26 then wF c else c
 jC { jZ c1 c1.cur.id (xH c1.cur) 2 with opn:=false } 24
def readOp (c:Cl) (r:Rng) (block:Int):Opn:=⟨1,0,0,c.cur.id,c.cur.age,r.epoch,0,0,block,0,0,0,0,[],[],[],[]⟩
def readF (c:Cl) (block later:Int):Cl :=
 let r:=(dN c.m.rngs block).1
 qJ { c with cur:={ c.cur with asked:=c.cur.asked++[r.group] } } r.group.toNat (readOp c r block) later false (.read block)
def bH (r:Rng) (b:Int):Bool:=decide (r.lo≤b∧b<r.hi)
def kG (t:Txn) (r:Rng):Opn :=
 ⟨2,0,0,t.id,t.age,r.epoch,if t.slo<t.shi then t.slo else 0,if t.slo<t.shi then t.shi else 0,0,if t.slo<t.shi then t.id else 0,0,0,0,t.parts,
  sortI ((t.reads.filter fun x=>bH r x.block).map (·.block)),t.writes.filter fun w=>bH r w.block,[]⟩
def ofF (t:Txn) (r:Rng):Bool:=t.reads.any (fun x=>bH r x.block)||(t.writes.any (fun w=>bH r w.block)||decide (max r.lo t.slo<min r.hi t.shi))
def byGroup (l:List Rng):List Rng:=l.mergeSort (fun a b=>decide (a.group≤b.group))
def partF (c:Cl) (o:Opn) (g:Int) (later:Int):Cl:=qJ c g.toNat o later false (.part o g)
def prepL (c:Cl):List Rng:=byGroup (c.m.rngs.filter (ofF c.cur))
def prepC (c:Cl) (l:List Rng):Cl:={ c with own:=true,cur:={ c.cur with parts:=l.map (·.group) },coord:=newO c.addr c.cur.id (l.map (·.group)) c.accs,about:=c.cur.id }
def dG (t:Txn) (l:List Rng) (c:Cl):Cl:=l.foldl (fun c r=>partF c (kG t r) r.group 0) c
def gE (c:Cl):Cl:=dG (prepC c (prepL c)).cur (prepL c) (prepC c (prepL c))
def cameF (v:Int):Int:=if v=1 then 0 else 24
def uM (c:Cl) (e:Int):Cl:=if c.kind=7 then sayF c ⟨e,c.cur.id,[]⟩ else sayF { c with opn:=false } ⟨e,0,[]⟩
def ballotF (n addr:Int):Int:=IntKind.i64.wrap (IntKind.i64.wrap (n*1048576)+addr)
def wM (c:Cl):Cl:=match c.coord with
 | none=>c
 | some k =>
  let n:=max c.round (k.top / 1048576)+1
  wW { c with started:=c.clock,round:=n,coord:=some (startC k (ballotF n c.addr)) } (startL k (ballotF n c.addr))
def vJ (c:Cl) (d:Dbt):Cl:=wM { c with coord:=newO c.addr d.id d.parts c.accs,about:=d.id }
def noD :Dbt:=⟨0,[],[]⟩
def gN (c:Cl):Dbt:=(c.doubts.find? (fun d=>decide (d.id=c.about))).getD noD
def kE (c:Cl):Cl:={ kR c with coord:=none }
def uJ (c:Cl) (d:Dbt) (v:Int):Cl:=jZ { c with doubts:=c.doubts.filter fun x=>decide (x.id≠d.id) } d.id d.groups v
def nextF (c:Cl) (v:Int):Cl:=if c.kind=9 then jC c (cameF v) else match c.doubts with
 | []=>jC c 0
 | d::_=>vJ c d
def bM (c:Cl) (v:Int):Cl :=
 if c.own=true then uM (jZ (kE c) c.cur.id (xH c.cur) v) (cameF v) else nextF (uJ (kE c) (gN c) v) v
def keptOp (x:Cal) (r:Rng):Opn:=⟨4,0,0,0,0,r.epoch,0,0,x.block,x.snap,0,0,0,[],[],[],[]⟩
def keptF (c:Cl) (x:Cal) (later:Int):Cl :=
 let r:=(dN c.m.rngs x.block).1
 qJ c r.group.toNat (keptOp x r) later false (.kept x)
def runW (c:Cl):Wts→Cl
 | .read x=>readF c x.block 0
 | .prep=>gE c
 | .snap=>gE c
 | .kept x=>keptF c x 0
 | .again x=>keptF c x 0
def vE (c:Cl) (w:Wts):Cl:=if c.stale=true then { c with waits:=some w } else runW c w
def frzF (c:Cl) (x:Cal) (epoch later:Int):Cl:=qJ c x.src.toNat ⟨5,0,0,0,0,epoch,x.lo,x.hi,0,0,0,0,0,[],[],[],[]⟩ later false (.frz x epoch)
def instF (c:Cl) (x:Cal) (epoch:Int) (d:List Bt):Cl:=qJ c x.dst.toNat ⟨6,0,0,0,0,epoch,x.lo,x.hi,0,0,0,0,0,[],[],[],d⟩ 0 false (.inst x epoch)
def finF (c:Cl) (x:Cal) (epoch:Int):Cl:=qJ c 0 ⟨10,0,0,0,0,epoch,0,0,0,0,0,0,0,[],[],[],[]⟩ 0 false (.fin x epoch)
def changeF (c:Cl) (x:Cal) (later:Int):Cl:=qJ c x.group.toNat ⟨11,0,0,0,0,0,0,0,0,0,x.value,0,x.node,[],[],[],[]⟩ later false (.change x)
def rngG (s:RS):Rng × RS:=(⟨xQ s,xQ (yR s),xQ (yR (yR s)),xQ (yR (yR (yR s)))⟩,yR (yR (yR (yR s))))
def rngsN (s:RS):Bool:=decide (0≤xQ s∧xQ s≤((yR s).left.length:Int) / 8)
def chainF :List Rng→Int→List Int→Int→Option Int
 | [],at',had,least=>some at'
 | r::l,at',had,least =>
  if r.lo≠at'∨r.hi≤r.lo∨64<r.hi∨r.group<1∨4<r.group∨r.group∈had∨r.epoch<1∨least<r.epoch then none
  else chainF l r.hi (r.group::had) least
def moved (m:Mpp):Bool:=decide (¬ (m.m1=0∧m.m2=0∧m.m3=0∧m.m4=0∧m.m5=0))
def vK (m:Mpp):Int:=if moved m=true then IntKind.i64.wrap (m.epoch - 1) else m.epoch
def dZ (m:Mpp):Int:=match chainF m.rngs 0 [] (vK m) with
 | none=>4
 | some e=>if e≠64∨1099511627776<m.epoch then 4 else if moved m=false then 0 else
  if qE m.rngs (vK m) 0 m.m2 m.m3 m.m4 m.m5≠0∨vK m+1≠m.m1 then 4 else 0
def readMap (s:RS):Mpp × RS :=
 let p:=wD rngG (xQ s).toNat (yR s)
 let s:=p.2
 (⟨p.1,xQ s,xQ (yR s),xQ (yR (yR s)),xQ (yR (yR (yR s))),xQ (yR (yR (yR (yR s)))),xQ (yR (yR (yR (yR (yR s)))))⟩,yR (yR (yR (yR (yR (yR s))))))
def noMap :Mpp:=⟨[],0,0,0,0,0,0⟩
def jN (b:List Bt):Mpp × Int :=
 if rngsN ⟨b,false⟩=false then (noMap,4) else
 let p:=readMap ⟨b,false⟩
 if endV p.2≠0 then (noMap,endV p.2) else if dZ p.1≠0 then (noMap,dZ p.1) else (p.1,0)
def jS (c:Cl) (b:List Bt):Cl:=if (jN b).2=0∧c.m.epoch≤(jN b).1.epoch then { c with m:=(jN b).1 } else c
def goF (c:Cl):Cl:=match c.waits with
 | none=>c
 | some w=>runW { c with waits:=none } w
def xX (c:Cl) (h:Hrd) (x:Res):Cl:=match h with
 | .quiet=>c
 | .look=>if x.code≠0 then lookF c 1 else if (jN x.data).2≠0 then lookF (jS c x.data) 1 else goF { jS c x.data with stale:=false }
 | .read b=>if x.code=0 then sayF { c with cur:={ c.cur with reads:=c.cur.reads++[⟨b,x.data⟩] } } ⟨0,0,x.data⟩ else if x.code=11 then readF c b 1 else lostF c x.code
 | .part o g=>if x.code=0 then c else if x.code=11 then partF c o g 1 else bM (if x.code=26 then wF c else c) 2
 | .kept y=>if x.code=11 then keptF c y 1 else if x.code=26 then vE (wF c) (.again y) else sayF c ⟨x.code,0,x.data⟩
 | .plan y=>if x.code≠0 then jC c x.code else frzF c y (jN x.data).1.m1 0
 | .frz y e=>if x.code=0 then instF c y e x.data else if x.code=11 then frzF c y e 1 else jC c x.code
 | .inst y e=>if x.code≠0 then jC c x.code else finF c y e
 | .fin y e=>if x.code≠0 then jC c x.code else jC (quietF (jS c x.data) y.src.toNat ⟨7,0,0,0,0,e,0,0,0,0,0,0,0,[],[],[],[]⟩) 0
 | .change y=>if x.code=11 then changeF c y 1 else jC c x.code
structure Rsp where
 out:List Pkt
 ans:Ans
 answered:Bool
def endF (c:Cl):Rsp:=⟨(vV c).out,(vV c).ans,(vV c).answered⟩
def planOp (x:Cal):Opn:=⟨9,0,0,0,0,0,x.lo,x.hi,0,0,0,x.src,x.dst,[],[],[],[]⟩
def beginF (c:Cl):Cl:=if c.opn=true then jC c 12 else if 1048575≤c.txns then jC c 17 else sayF { kW c with opn:=true } ⟨0,(kW c).cur.id,[]⟩
def isBof (n:Int) (r:Bof):Bool:=decide (r.block=n)
def vA (c:Cl) (x:Cal):Cl :=
 if c.opn=false then jC c 22 else if ¬ (0≤x.block∧x.block<64) then jC c 20 else match c.cur.writes.find? (isW x.block) with
 | some w=>sayF c ⟨0,0,w.data⟩
 | none=>match c.cur.reads.find? (isBof x.block) with
  | some r=>sayF c ⟨0,0,r.data⟩
  | none=>if 16≤c.cur.reads.length then jC c 17 else vE c (.read x)
def qQ (c:Cl) (x:Cal) (d:List Bt):Cl :=
 if c.opn=false then jC c 22 else jC { c with cur:={ c.cur with writes:=(dU c.cur.writes x.block d).1 } } (dU c.cur.writes x.block d).2
def commitF (c:Cl):Cl:=if c.opn=false then jC c 22 else if c.cur.reads.length+c.cur.writes.length=0 then jC { c with opn:=false } 0 else vE c .prep
def abortF (c:Cl):Cl:=if c.opn=false then jC c 22 else jC { jZ c c.cur.id (xH c.cur) 2 with opn:=false } 0
def qS (c:Cl):Cl:=if c.opn=true then jC c 12 else match c.doubts with
 | []=>jC c 0
 | d::_=>vJ c d
def snapshotF (c:Cl) (x:Cal):Cl :=
 if c.opn=true then jC c 12 else if x.set<1∨(c.sets.length:Int)<x.set then jC c 3 else if 1048575≤c.txns then jC c 17 else
 let s:=c.sets.getD (x.set - 1).toNat ⟨0,0⟩
 let c:=kW c
 vE { c with cur:={ c.cur with slo:=s.lo,shi:=s.hi },own:=true } .snap
def readSnapF (c:Cl) (x:Cal):Cl :=
 if ¬ (0≤x.block∧x.block<64) then jC c 20 else if jF (keptOp x ⟨0,0,0,0⟩)≠0 then jC c (jF (keptOp x ⟨0,0,0,0⟩)) else vE c (.kept x)
def dR (c:Cl) (x:Cal):Cl:=match jU c.ended x.txn with
 | some v=>jC c (cameF v)
 | none=>match c.doubts.find? (fun d=>decide (d.id=x.txn)) with
  | none=>jC c 22
  | some d=>vJ c d
def moveF (c:Cl) (x:Cal):Cl :=
 if c.opn=true then jC c 12 else if jF (planOp x)≠0 then jC c (jF (planOp x)) else if (c.nmem:Int)≤max x.src x.dst then jC c 27 else qJ c 0 (planOp x) 0 false (.plan x)
def memberF (c:Cl) (x:Cal):Cl :=
 if x.group<0∨(c.nmem:Int)≤x.group then jC c 27 else if x.node<1∨c.nodes<x.node then jC c 28 else if x.value≠1∧x.value≠2 then jC c 3 else changeF c x 0
def vZ (c:Cl) (x:Cal) (d:List Bt):Cl :=
 if x.kind=1 then beginF c else if x.kind=2 then vA c x else if x.kind=3 then qQ c x d else if x.kind=4 then commitF c else if x.kind=5 then abortF c else
 if x.kind=6 then qS c else if x.kind=7 then snapshotF c x else if x.kind=8 then readSnapF c x else if x.kind=9 then dR c x else if x.kind=10 then moveF c x else memberF c x
def wG (c:Cl) (x:Cal) (d:List Bt):Cl × Rsp :=
 if c.busy=true then (c,⟨[],⟨11,0,[]⟩,true⟩) else if x.kind<1∨11<x.kind then (c,⟨[],⟨13,0,[]⟩,true⟩) else
 let c:=vZ { c with busy:=true,kind:=x.kind,since:=c.clock } x d
 (dO c,endF c)
def vQ (c:Cl) (g:Nat) (n:Int):Cl:={ c with guess:=c.guess.set g n }
def kO (c:Cl) (i:Nat):Cl:=match c.reqs[i]? with
 | none=>c
 | some r=>if 0≤r.sent∧4≤c.clock - r.sent then wZ (vQ c r.group (vO c r.group % c.nodes+1)) i else c
def dbtF (c:Cl):Dbt:=⟨c.cur.id,c.cur.parts,xH c.cur⟩
def qF (c:Cl):Cl :=
 if c.kind=4∨c.kind=7 then
  (if c.coord.isSome=true then uM { kE c with doubts:=c.doubts++[dbtF c],own:=true } 25 else uM { jZ (kE c) c.cur.id (xH c.cur) 2 with own:=true } 24)
 else if c.kind=2 then lostF (kE c) 0 else if c.kind=8 then jC (kE c) 11 else jC (kE c) 25
def tickF (c:Cl):Cl × Rsp :=
 let c:Cl:={ c with clock:=c.clock+1 }
 let c:=(xA c.reqs).foldl kO c
 let c:=if c.coord.isSome=true∧c.own=false∧20≤c.clock - c.started then wM c else c
 let c:=if c.busy=true∧60≤c.clock - c.since then qF c else c
 (dO c,endF c)
def isTold (m:Msg) (r:Rq):Bool:=decide ((r.group:Int)=m.group∧r.o.seq=m.seq∧0≤r.sent)
def toldAt (c:Cl) (m:Msg):Option Nat:=(xA c.reqs).find? fun i=>match c.reqs[i]? with
 | none=>false
 | some r=>isTold m r
def toldF (c:Cl) (m:Msg):Cl:=match toldAt c m with
 | none=>c
 | some i=>match c.reqs[i]? with
  | none=>c
  | some r =>
   if m.ok=false then (if 1≤m.index∧m.index≤c.nodes∧m.index≠m.src then wZ (vQ c r.group m.index) i else c)
   else if (vR m.data).2≠0 then c else
   let c:=if m.src≤c.nodes then vQ c r.group m.src else c
   xX { c with reqs:=c.reqs.eraseIdx i } r.heard (vR m.data).1
def stepF (c:Cl) (m:Msg):Cl:=match c.coord with
 | none=>c
 | some k =>
  let c:=wW { c with coord:=some (kX k m).1 } (kX k m).2
  if valueC (kX k m).1≠0 then bM c (valueC (kX k m).1) else c
def dL (c:Cl) (src dst:Int) (b:List Bt):Cl × Rsp :=
 let m:=(kH b).1
 if dst≠c.addr∨(kH b).2≠0∨m.src≠src∨m.dst≠dst then (c,⟨[],ans0,false⟩) else
 let c:=if m.kind=7 then toldF c m else if c.coord.isSome=true∧m.txn=c.about∧(m.kind=9∨m.kind=11) then stepF c m else c
 (dO c,endF c)
set_option maxHeartbeats 16000000
set_option maxRecDepth 4000
attribute [local irreducible] xY yW xC
instance keyI :KeyT Tryz.prog Int:=keyInt (t:=3) (Und.out (P:=Tryz.prog) (t:=3) (d:=.int .i64))
instance keyB :KeyT Tryz.prog (Int × Int × Int):=key3 (t:=249) (Und.out (P:=Tryz.prog) (t:=249)) (Und.out (P:=Tryz.prog) (t:=3)) (Und.out (P:=Tryz.prog) (t:=3)) (Und.out (P:=Tryz.prog) (t:=3)) M M M M M M (by kernel_rfl)
instance repPrm :Rep Prm where
 tid:=253
 size:=3
 rd:=fun _ _ x e=>e=[.int .i64 x.src,.int .i64 x.index,.int .i64 x.value]
 len:=by rintro _ _ _ _ rfl; rfl
 one:=by rintro _ _ _ _ rfl u hu; simp at hu; rcases hu with rfl|rfl|rfl<;>rfl
 mono:=fun _ h=>h
def vI (l:List (Int × Int)):List (Int × Value):=l.map fun p=>(p.1,.int .i64 p.2)
theorem getA_vI (l:List (Int × Int)) (k:Int):jU (vI l) k=(jU l k).map (.int .i64):=by
 induction l with
 | nil=>rfl
 | cons p l ih =>
  obtain ⟨a,b⟩:=p
  simp only [vI,List.map_cons,jU] at ih ⊢
  split
  ·rfl
  ·exact ih
theorem updA_vI (l:List (Int × Int)) (k v:Int):wC (vI l) k (.int .i64 v)=vI (wC l k v):=by
 induction l with
 | nil=>rfl
 | cons p l ih =>
  obtain ⟨a,b⟩:=p
  simp only [vI,List.map_cons,wC] at ih ⊢
  split
  ·rfl
  ·rw [ih]; rfl
theorem mapI_vI (l:List (Int × Int)) (k:Int):(jU (vI l) k).getD (.int .i64 0)=.int .i64 (dW l k):=by
 rw [getA_vI]; unfold dW; cases jU l k<;>rfl
def gP {κ α:Type} (R:α→Value→Hp→Prop):List (κ × α)→List (κ × Value)→Hp→Prop
 | [],[],h=>h=0
 | (k,x)::l,(k',v)::vs,h=>k=k'∧∃ h1 h2,R x v h1∧gP R l vs h2∧h=h1+h2
 | _,_,_=>False
section
variable {κ α:Type} [DecidableEq κ] {R:α→Value→Hp→Prop}
theorem gP.none :∀ {l:List (κ × α)} {vs:List (κ × Value)} {h:Hp} {k:κ},gP R l vs h→jU l k=none→jU vs k=none
 | [],[],_,_,_,_=>rfl
 | (a,x)::l,(b,v)::vs,_,k,h,hg=>by
  obtain ⟨rfl,_,_,_,h2,_⟩:=h
  simp only [jU] at hg ⊢
  split at hg
  ·cases hg
  ·rename_i hn; rw [if_neg hn]; exact gP.none h2 hg
 | [],_::_,_,_,h,_=>h.elim
 | _::_,[],_,_,h,_=>h.elim
theorem gP.some :∀ {l:List (κ × α)} {vs:List (κ × Value)} {h:Hp} {k:κ} {x:α},gP R l vs h→jU l k=some x →
  ∃ v h1 h2,jU vs k=some v∧R x v h1∧h=h1+h2∧∀ {y:α} {u:Value} {h3:Hp},R y u h3→gP R (wC l k y) (wC vs k u) (h3+h2)
 | [],_,_,_,_,_,hg=>by cases hg
 | (a,z)::l,(b,w)::vs,h,k,x,hh,hg=>by
  obtain ⟨rfl,h1,h2,hr,hl,rfl⟩:=hh
  simp only [jU] at hg ⊢
  split at hg
  ·rename_i e; subst e
   simp only [Option.some.injEq] at hg; subst hg
   rw [if_pos M]
   refine ⟨w,h1,h2,rfl,hr,rfl,fun {y u h3} hy=>?_⟩
   simp only [wC,if_pos M]
   exact ⟨rfl,h3,h2,hy,hl,rfl⟩
  ·rename_i hn
   rw [if_neg hn]
   obtain ⟨v,g1,g2,e1,e2,e3,e4⟩:=gP.some hl hg
   refine ⟨v,g1,h1+g2,e1,e2,by rw [e3]; ac_rfl,fun {y u h3} hy=>?_⟩
   simp only [wC,if_neg hn]
   exact ⟨rfl,h1,h3+g2,hr,e4 hy,by ac_rfl⟩
 | _::_,[],_,_,_,h,_=>h.elim
theorem gP.new :∀ {l:List (κ × α)} {vs:List (κ × Value)} {h:Hp} {k:κ} {y:α} {u:Value} {h3:Hp},gP R l vs h→jU l k=.none→R y u h3→gP R (wC l k y) (wC vs k u) (h3+h)
 | [],[],_,k,y,u,h3,h,_,hy=>by obtain rfl:=(show _=_ from h); exact ⟨rfl,h3,0,hy,rfl,rfl⟩
 | (a,z)::l,(b,w)::vs,h,k,y,u,h3,hh,hg,hy=>by
  obtain ⟨rfl,h1,h2,hr,hl,rfl⟩:=hh
  simp only [jU] at hg
  split at hg
  ·cases hg
  ·rename_i hn
   simp only [wC,if_neg hn]
   exact ⟨rfl,h1,h3+h2,hr,gP.new hl hg hy,by ac_rfl⟩
 | [],_::_,_,_,_,_,_,h,_,_=>h.elim
 | _::_,[],_,_,_,_,_,h,_,_=>h.elim
theorem updA_same :∀ {vs:List (κ × Value)} {k:κ} {v:Value},jU vs k=.some v→wC vs k v=vs
 | [],_,_,h=>by cases h
 | (a,w)::vs,k,v,h=>by
  simp only [jU] at h
  simp only [wC]
  split at h
  ·rename_i e; subst e; simp only [Option.some.injEq] at h; subst h; rw [if_pos M]
  ·rename_i hn; rw [if_neg hn,updA_same h]
end
def InnerAt (x:List (Int × Int)) (v:Value) (h:Hp):Prop:=∃ b,v=.map (some b)∧qT Tryz.prog b (vI x) h
def AccAt (b:Nat) (l:List ((Int × Int × Int) × List (Int × Int))) (h:Hp):Prop:=∃ vs h1 h2,qT Tryz.prog b vs h1∧gP InnerAt l vs h2∧h=h1+h2
def PrsAt (w0:World) (b:Nat) (l:List (Int × List Prm)) (h:Hp):Prop:=∃ vs h1 h2,qT Tryz.prog b vs h1∧gP (fun x v h=>OwL w0 0 x v h) l vs h2∧h=h1+h2
def FromStart (st:Bool) (v:Value) (h:Hp) (p:Nat→Hp→Prop):Prop:=if st=true then ∃ b,v=.map (some b)∧p b h else v=.map none∧h=0
structure uW (w0:World) (b:Nat) (k:Coo) (S:Hp):Prop where
 out:∃ (vp pm pp:Value) (ab cb:Nat) (h1 h2 h3 h4 h5:Hp),OwL w0 0 k.parts vp h1∧AccAt ab k.accepted h2∧qT Tryz.prog cb (vI k.chosen) h3 ∧
  FromStart k.started pm h4 (fun q h=>PrsAt w0 q k.promised h)∧FromStart k.started pp h5 (fun q h=>qT Tryz.prog q (vI k.proposed) h) ∧
  S=cooC b k.me k.txn vp k.acc (.map (some ab)) (.map (some cb)) (.bool k.started) k.number pm pp k.top+(h1+(h2+(h3+(h4+h5))))
end Sl
end Go.Proofs.YtfahijncpmlhjaaGreat
namespace Go.Proofs.YtfahijncpmlhjaaGreat
open Go Go.RowKit
namespace Sl
structure Core where
 group:Nat
 o:Opn
 frm:Int
 tidy:Bool
 heard:Hrd
def vS (r:Rq):Core:=⟨r.group,r.o,r.frm,r.tidy,r.heard⟩
def Same (c c':Cl):Prop:=∃ out reqs,c'={ c with out:=out,reqs:=reqs }∧reqs.map vS=c.reqs.map vS
theorem Same.refl (c:Cl):Same c c:=⟨c.out,c.reqs,rfl,rfl⟩
theorem Same.trans {a b c:Cl} (h:Same a b) (k:Same b c):Same a c:=by
 obtain ⟨o1,r1,rfl,e1⟩:=h
 obtain ⟨o2,r2,rfl,e2⟩:=k
 exact ⟨o2,r2,rfl,e2.trans e1⟩
theorem putF_same (c:Cl) (m:Msg):Same c (putF c m)∧(putF c m).reqs=c.reqs:=by
 unfold putF
 simp only
 split
 ·exact ⟨⟨_,_,rfl,rfl⟩,rfl⟩
 ·exact ⟨Same.refl c,rfl⟩
theorem uE :∀ (l:List Msg) (c:Cl),Same c (wW c l)∧(wW c l).reqs=c.reqs
 | [],c=>⟨Same.refl c,rfl⟩
 | m::l,c=>by
  have h1:=putF_same c m
  have h2:=uE l (putF c m)
  exact ⟨h1.1.trans h2.1,h2.2.trans h1.2⟩
theorem map_modify_core (l:List Rq) (i:Nat) (n:Int):(l.modify i fun r=>{ r with sent:=n }).map vS=l.map vS:=by
 apply List.ext_getElem?
 intro j
 simp only [List.getElem?_map,List.getElem?_modify]
 cases l[j]? with
 | none=>rfl
 | some r=>by_cases h:i=j<;>simp [h,vS]
theorem sentF_same (c:Cl) (i:Nat):Same c (gW c i):=⟨_,_,rfl,map_modify_core _ _ _⟩
theorem qN (c:Cl) (i:Nat):Same c (wZ c i):=by
 unfold wZ
 split
 ·exact Same.refl c
 ·split
  ·exact (sentF_same c i).trans (putF_same _ _).1
  ·exact sentF_same c i
theorem sendsF_same :∀ (l:List Nat) (c:Cl),Same c (wP c l)
 | [],c=>Same.refl c
 | i::l,c=>by
  have h2:=sendsF_same l (if dueF c i=true then wZ c i else c)
  refine Same.trans ?_ h2
  split
  ·exact qN c i
  ·exact Same.refl c
theorem flushF_same (c:Cl):Same c (vV c):=sendsF_same _ _
def wU (c:Cl):List Hrd:=(c.reqs.filter fun r=>!r.tidy).map (·.heard)
theorem pendH_core (c:Cl):wU c=((c.reqs.map vS).filter fun r=>!r.tidy).map (·.heard):=by
 unfold wU; rw [List.filter_map,List.map_map]; rfl
def tfree :Hrd→Bool
 | .quiet=>true
 | .look=>true
 | _=>false
def isPart :Hrd→Bool
 | .part _ _=>true
 | _=>false
def kindW (c:Cl):Wts→Prop
 | .read _=>c.kind=2∧c.opn=true∧c.own=false
 | .prep=>c.kind=4∧c.opn=true∧c.own=false
 | .snap=>c.kind=7∧c.opn=false∧c.own=true
 | .kept _=>c.kind=8∧c.own=false
 | .again _=>c.kind=8∧c.own=false
def kindH (c:Cl):Hrd→Prop
 | .read _=>c.kind=2∧c.opn=true
 | .kept _=>c.kind=8
 | .plan _=>c.kind=10
 | .frz _ _=>c.kind=10
 | .inst _ _=>c.kind=10
 | .fin _ _=>c.kind=10
 | .change _=>c.kind=11
 | _=>False
def PhI (c:Cl):Prop:=wU c=[]∧c.waits=none∧c.coord=none∧c.own=false
def PhA (c:Cl):Prop:=wU c=[]∧c.coord=none∧∃ w,c.waits=some w∧kindW c w
def PhB (c:Cl):Prop:=(∃ h,wU c=[h]∧kindH c h)∧c.waits=none∧c.coord=none∧c.own=false
def PhC (c:Cl):Prop:=(∀ h∈wU c,isPart h=true)∧c.own=true∧c.waits=none∧(c.kind=4∧c.opn=true∨c.kind=7∧c.opn=false)
def PhD (c:Cl):Prop:=wU c=[]∧c.waits=none∧c.own=false∧c.coord.isSome=true∧(∃ d∈c.doubts,d.id=c.about)∧(c.kind=6∨c.kind=9)
def Quiet (c:Cl):Prop:=c.answered=false∧c.ans=ans0
def dI (c:Cl):Prop:=c.busy=true∧Quiet c∧(PhA c∨PhB c∨PhC c∨PhD c)
def Said (c:Cl):Prop:=c.busy=false∧c.answered=true∧PhI c
def Rest (c:Cl):Prop:=c.busy=false∧Quiet c∧PhI c
def Base (c:Cl):Prop:=c.busy=true∧Quiet c∧wU c=[]∧c.waits=none∧c.coord=none
def grp (g:Int):Prop:=0≤g∧g≤4
def hrdOk :Hrd→Prop
 | .quiet=>True
 | .look=>True
 | .read _=>True
 | .part _ g=>grp g
 | .kept _=>True
 | .plan x=>grp x.src∧grp x.dst
 | .frz x _=>grp x.src∧grp x.dst
 | .inst x _=>grp x.src∧grp x.dst
 | .fin x _=>grp x.src
 | .change x=>grp x.group
structure xG (c:Cl):Prop where
 guess:c.guess.length=5
 reqs:∀ r∈c.reqs.map vS,r.group<5∧hrdOk r.heard∧(r.tidy=true→tfree r.heard=true)
 rngs:∀ r∈c.m.rngs,grp r.group
 parts:∀ g∈c.cur.parts,grp g
 asked:∀ g∈c.cur.asked,grp g
 doubts:∀ d∈c.doubts,(∀ g∈d.groups,grp g)∧newOk c.addr d.id d.parts c.accs=true
 coord:c.coord.isSome=true→c.own=true→newOk c.addr c.cur.id c.cur.parts c.accs=true
 nmem:c.nmem≤5∧0≤c.clock
theorem xG.same {c c':Cl} (h:xG c) (s:Same c c'):xG c':=by
 obtain ⟨o,r,rfl,e⟩:=s
 exact ⟨h.guess,by simp only; rw [e]; exact h.reqs,h.rngs,h.parts,h.asked,h.doubts,h.coord,h.nmem⟩
theorem pendH_same {c c':Cl} (s:Same c c'):wU c'=wU c:=by
 obtain ⟨o,r,rfl,e⟩:=s
 rw [pendH_core,pendH_core]; simp only; rw [e]
theorem same_pres {c c':Cl} (s:Same c c'):(dI c→dI c')∧(Said c→Said c')∧(Rest c→Rest c'):=by
 have hp:=pendH_same s
 obtain ⟨o,r,rfl,e⟩:=s
 simp only [dI,Said,Rest,Quiet,PhA,PhB,PhC,PhD,PhI,hp,kindW,kindH]
 exact ⟨id,id,id⟩
def tidyRq (r:Rq):Prop:=r.tidy=true∧tfree r.heard=true∧r.group<5
def gU (c c':Cl):Prop:=∃ seq ended stale l,c'={ c with seq:=seq,ended:=ended,stale:=stale,reqs:=c.reqs++l }∧∀ r∈l,tidyRq r
theorem gU.refl (c:Cl):gU c c:=⟨c.seq,c.ended,c.stale,[],by simp,by simp⟩
theorem gU.trans {a b c:Cl} (h:gU a b) (k:gU b c):gU a c:=by
 obtain ⟨s1,e1,t1,l1,rfl,h1⟩:=h
 obtain ⟨s2,e2,t2,l2,rfl,h2⟩:=k
 refine ⟨s2,e2,t2,l1++l2,by simp,fun r hr=>?_⟩
 rcases List.mem_append.1 hr with h|h
 ·exact h1 r h
 ·exact h2 r h
theorem quietF_adds (c:Cl) {g:Nat} (o:Opn) (hg:g<5):gU c (quietF c g o):=by
 refine ⟨c.seq+1,c.ended,c.stale,[_],rfl,fun r hr=>?_⟩
 rw [List.mem_singleton] at hr; subst hr
 exact ⟨rfl,rfl,hg⟩
theorem grp_nat {g:Int} (h:grp g):g.toNat<5:=by unfold grp at h; omega
theorem quietsF_adds (o:Opn):∀ (l:List Int) (c:Cl),(∀ g∈l,grp g)→gU c (wY c o l)
 | [],c,_=>gU.refl c
 | g::l,c,h=>(quietF_adds c o (grp_nat (h g (by simp)))).trans (quietsF_adds o l (quietF c g.toNat o) fun x hx=>h x (by simp [hx]))
theorem uC (c:Cl) (id:Int) (l:List Int) (v:Int) (h:∀ g∈l,grp g):gU c (jZ c id l v):=by
 have h2:=quietsF_adds (endOp id v) l { c with ended:=wC c.ended id v } h
 refine gU.trans ⟨c.seq,wC c.ended id v,c.stale,[],by simp,by simp⟩ h2
theorem lookF_adds (c:Cl) (n:Int):gU c (lookF c n):=by
 refine ⟨c.seq+1,c.ended,c.stale,[_],rfl,fun r hr=>?_⟩
 rw [List.mem_singleton] at hr; subst hr
 exact ⟨rfl,rfl,by simp [reqF]⟩
theorem qM (c:Cl):gU c (wF c):=by
 unfold wF
 split
 ·exact gU.refl c
 ·exact gU.trans ⟨c.seq,c.ended,true,[],by simp,by simp⟩ (lookF_adds _ 0)
theorem tfree_ok {h:Hrd} (ht:tfree h=true):hrdOk h:=by cases h<;>first|trivial|cases ht
theorem pendH_adds {c c':Cl} (s:gU c c'):wU c'=wU c:=by
 obtain ⟨_,_,_,l,rfl,h⟩:=s
 unfold wU
 simp only [List.filter_append,List.map_append]
 have:l.filter (fun r=>!r.tidy)=[]:=List.filter_eq_nil_iff.2 fun r hr=>by simp [(h r hr).1]
 simp [this]
theorem xG.adds {c c':Cl} (h:xG c) (s:gU c c'):xG c':=by
 obtain ⟨_,_,_,l,rfl,hl⟩:=s
 refine ⟨h.guess,?_,h.rngs,h.parts,h.asked,h.doubts,h.coord,h.nmem⟩
 intro r hr
 simp only [List.map_append,List.mem_append] at hr
 rcases hr with hr|hr
 ·exact h.reqs r hr
 ·obtain ⟨q,hq,rfl⟩:=List.mem_map.1 hr
  obtain ⟨a,b,d⟩:=hl q hq
  exact ⟨d,tfree_ok b,fun _=>b⟩
theorem vB {c c':Cl} (s:gU c c'):c'.busy=c.busy∧c'.waits=c.waits∧c'.coord=c.coord∧c'.own=c.own∧c'.opn=c.opn∧c'.kind=c.kind∧c'.cur=c.cur∧c'.doubts=c.doubts∧c'.about=c.about∧c'.ans=c.ans∧c'.answered=c.answered∧c'.m=c.m∧c'.guess=c.guess∧c'.addr=c.addr∧c'.accs=c.accs∧c'.nmem=c.nmem∧c'.nodes=c.nodes∧c'.clock=c.clock:=by
 obtain ⟨_,_,_,l,rfl,hl⟩:=s
 simp
theorem Base.adds {c c':Cl} (h:Base c) (s:gU c c'):Base c':=by
 have hp:=pendH_adds s
 obtain ⟨_,_,_,l,rfl,hl⟩:=s
 simp only [Base,Quiet,hp] at h ⊢
 exact h
theorem uO {c:Cl} (a:Ans) (hp:wU c=[]) (hc:c.coord=none):Said (sayF c a):=⟨rfl,rfl,hp,rfl,hc,rfl⟩
theorem xG.say {c:Cl} (h:xG c) (a:Ans):xG (sayF c a):=⟨h.guess,h.reqs,h.rngs,h.parts,h.asked,h.doubts,(fun _ h=>by cases h),h.nmem⟩
theorem xG.opn {c:Cl} (h:xG c) (b:Bool):xG { c with opn:=b }:=⟨h.guess,h.reqs,h.rngs,h.parts,h.asked,h.doubts,h.coord,h.nmem⟩
theorem xG.groups {c:Cl} (h:xG c):∀ g∈xH c.cur,grp g:=by
 intro g hg
 rcases List.mem_append.1 (mem_groupsF hg) with hg|hg
 ·exact h.parts g hg
 ·exact h.asked g hg
theorem lostF_said {c:Cl} (e:Int) (hf:xG c) (hp:wU c=[]) (hc:c.coord=none):Said (lostF c e)∧xG (lostF c e):=by
 unfold lostF
 simp only
 have h1:gU c (if e=26 then wF c else c):=by split<;>first|exact qM c|exact gU.refl c
 generalize (if e=26 then wF c else c)=c1 at h1
 have hf1:=hf.adds h1
 have h2:=uC c1 c1.cur.id (xH c1.cur) 2 hf1.groups
 have h3:=h1.trans h2
 generalize jZ c1 c1.cur.id (xH c1.cur) 2=c2 at h2 h3
 have hk:=vB h3
 exact ⟨uO _ (by show wU c2=[]; rw [pendH_adds h3,hp]) (by show c2.coord=none; rw [hk.2.2.1,hc]),((hf.adds h3).opn false).say _⟩
theorem pendH_ask (c:Cl) (g:Nat) (o:Opn) (n:Int) (h:Hrd):wU (qJ c g o n false h)=wU c++[h]:=by
 unfold wU qJ reqF; simp
theorem xG.ask {c:Cl} (h:xG c) {g:Nat} (o:Opn) (n:Int) (t:Bool) {hd:Hrd} (hg:g<5) (hh:hrdOk hd) (ht:t=true→tfree hd=true):xG (qJ c g o n t hd):=by
 refine ⟨h.guess,?_,h.rngs,h.parts,h.asked,h.doubts,h.coord,h.nmem⟩
 intro r hr
 simp only [qJ,List.map_append,List.mem_append] at hr
 rcases hr with hr|hr
 ·exact h.reqs r hr
 ·obtain ⟨q,hq,rfl⟩:=List.mem_map.1 hr
  rw [List.mem_singleton] at hq; subst hq
  exact ⟨hg,hh,ht⟩
theorem ask_work {c:Cl} (hb:Base c) (ho:c.own=false) (g:Nat) (o:Opn) (n:Int) {h:Hrd} (hk:kindH c h):dI (qJ c g o n false h):=by
 obtain ⟨h1,h2,h3,h4,h5⟩:=hb
 refine ⟨h1,h2,.inr (.inl ⟨⟨h,by rw [pendH_ask,h3]; rfl,?_⟩,h4,h5,ho⟩)⟩
 cases h<;>exact hk
theorem findR_grp {c:Cl} (h:xG c) (b:Int):grp (dN c.m.rngs b).1.group:=by
 unfold dN
 split
 ·rename_i r hr; exact h.rngs r (List.mem_of_find?_eq_some hr)
 ·exact ⟨Int.le_refl 0,by decide⟩
theorem xG.reads {c:Cl} (h:xG c) (l:List Bof):xG { c with cur:={ c.cur with reads:=l } }:=⟨h.guess,h.reqs,h.rngs,h.parts,h.asked,h.doubts,h.coord,h.nmem⟩
theorem readF_work {c:Cl} (hf:xG c) (hb:Base c) (ho:c.own=false) (hk:c.kind=2∧c.opn=true) (b n:Int):dI (readF c b n)∧xG (readF c b n):=by
 unfold readF
 simp only
 have hg:=findR_grp hf b
 refine ⟨ask_work (h:=.read b) ⟨hb.1,hb.2.1,hb.2.2.1,hb.2.2.2.1,hb.2.2.2.2⟩ ho _ _ _ hk,xG.ask ?_ _ _ _ (grp_nat hg) trivial (fun h=>by cases h)⟩
 refine ⟨hf.guess,hf.reqs,hf.rngs,hf.parts,?_,hf.doubts,hf.coord,hf.nmem⟩
 intro g hm
 rcases List.mem_append.1 hm with hm|hm
 ·exact hf.asked g hm
 ·rw [List.mem_singleton] at hm; subst hm; exact hg
theorem keptF_work {c:Cl} (hf:xG c) (hb:Base c) (ho:c.own=false) (hk:c.kind=8) (x:Cal) (n:Int):dI (keptF c x n)∧xG (keptF c x n) :=
 ⟨ask_work (h:=.kept x) hb ho _ _ _ hk,hf.ask _ _ _ (grp_nat (findR_grp hf _)) trivial (fun h=>by cases h)⟩
theorem parts_pend (t:Txn):∀ (l:List Rng) (c:Cl),(∀ h∈wU c,isPart h=true)→∀ h∈wU (dG t l c),isPart h=true
 | [],c,h=>h
 | r::l,c,h=>by
  refine parts_pend t l (partF c (kG t r) r.group 0) ?_
  intro x hx
  unfold partF at hx
  rw [pendH_ask] at hx
  rcases List.mem_append.1 hx with hx|hx
  ·exact h x hx
  ·rw [List.mem_singleton] at hx; subst hx; rfl
def PartsOnly (c c':Cl):Prop:=∃ seq reqs,c'={ c with seq:=seq,reqs:=reqs }
theorem parts_only (t:Txn):∀ (l:List Rng) (c:Cl),PartsOnly c (dG t l c)
 | [],c=>⟨c.seq,c.reqs,rfl⟩
 | r::l,c=>by
  obtain ⟨s,q,e⟩:=parts_only t l (partF c (kG t r) r.group 0)
  exact ⟨s,q,e⟩
theorem parts_fine (t:Txn):∀ (l:List Rng) (c:Cl),(∀ r∈l,grp r.group)→xG c→xG (dG t l c)
 | [],c,_,h=>h
 | r::l,c,hl,h=>parts_fine t l (partF c (kG t r) r.group 0) (fun x hx=>hl x (by simp [hx])) (h.ask _ _ _ (grp_nat (hl r (by simp))) (hl r (by simp)) (fun h=>by cases h))
theorem mem_byGroup {l:List Rng} {r:Rng} (h:r∈byGroup l):r∈l:=by unfold byGroup at h; exact List.mem_mergeSort.1 h
theorem prepareF_work {c:Cl} (hf:xG c) (hb:Base c) (hk:c.kind=4∧c.opn=true∨c.kind=7∧c.opn=false):dI (gE c)∧xG (gE c):=by
 obtain ⟨h1,h2,h3,h4,h5⟩:=hb
 unfold gE
 have hl:∀ r∈prepL c,grp r.group:=fun r hr=>hf.rngs r (List.mem_filter.1 (mem_byGroup hr)).1
 generalize prepL c=l at hl
 have hpt:∀ g∈l.map (·.group),grp g:=fun g hg=>by obtain ⟨r,hr,rfl⟩:=List.mem_map.1 hg; exact hl r hr
 constructor
 ·have hp:=parts_pend (prepC c l).cur l (prepC c l) (by intro h hh; rw [show wU (prepC c l)=wU c from rfl,h3] at hh; cases hh)
  obtain ⟨s,q,e⟩:=parts_only (prepC c l).cur l (prepC c l)
  rw [e] at hp ⊢
  exact ⟨h1,h2,.inr (.inr (.inl ⟨hp,rfl,h4,hk⟩))⟩
 ·refine parts_fine _ _ _ hl ⟨hf.guess,hf.reqs,hf.rngs,hpt,hf.asked,hf.doubts,?_,hf.nmem⟩
  intro hc _
  simp only [prepC,newO] at hc
  split at hc
  ·assumption
  ·cases hc
theorem runW_work {c:Cl} (hf:xG c) (hb:Base c) {w:Wts} (hk:kindW c w):dI (runW c w)∧xG (runW c w):=by
 cases w with
 | read x=>exact readF_work hf hb hk.2.2 ⟨hk.1,hk.2.1⟩ _ _
 | prep=>exact prepareF_work hf hb (.inl ⟨hk.1,hk.2.1⟩)
 | snap=>exact prepareF_work hf hb (.inr ⟨hk.1,hk.2.1⟩)
 | kept x=>exact keptF_work hf hb hk.2 hk.1 _ _
 | again x=>exact keptF_work hf hb hk.2 hk.1 _ _
theorem mappedF_work {c:Cl} (hf:xG c) (hb:Base c) {w:Wts} (hk:kindW c w):dI (vE c w)∧xG (vE c w):=by
 unfold vE
 split
 ·obtain ⟨h1,h2,h3,h4,h5⟩:=hb
  refine ⟨⟨h1,h2,.inl ⟨h3,h5,w,rfl,?_⟩⟩,⟨hf.guess,hf.reqs,hf.rngs,hf.parts,hf.asked,hf.doubts,hf.coord,hf.nmem⟩⟩
  cases w<;>exact hk
 ·exact runW_work hf hb hk
theorem startF_same (c:Cl):∃ c1,(c1=c∨∃ s r k,c1={ c with started:=s,round:=r,coord:=some k }∧c.coord.isSome=true)∧Same c1 (wM c):=by
 unfold wM
 split
 ·exact ⟨c,.inl M,Same.refl c⟩
 ·rename_i k hk
  exact ⟨_,.inr ⟨_,_,_,rfl,by rw [hk]; rfl⟩,(uE _ _).1⟩
theorem gC {c:Cl} (h:dI c) (hf:xG c) (hs:c.coord.isSome=true):dI (wM c)∧xG (wM c):=by
 obtain ⟨c1,h1,h2⟩:=startF_same c
 have:dI c1∧xG c1:=by
  rcases h1 with rfl|⟨s,r,k,rfl,hc⟩
  ·exact ⟨h,hf⟩
  ·refine ⟨⟨h.1,h.2.1,?_⟩,⟨hf.guess,hf.reqs,hf.rngs,hf.parts,hf.asked,hf.doubts,fun _ ho=>hf.coord hc ho,hf.nmem⟩⟩
   rcases h.2.2 with ⟨_,e,_⟩|⟨_,_,e,_⟩|⟨a,b,d,e⟩|⟨a,b,d,e,f,g⟩
   ·rw [e] at hc; cases hc
   ·rw [e] at hc; cases hc
   ·exact .inr (.inr (.inl ⟨a,b,d,e⟩))
   ·exact .inr (.inr (.inr ⟨a,b,d,rfl,f,g⟩))
 exact ⟨(same_pres h2).1 this.1,this.2.same h2⟩
theorem resolveF_work {c:Cl} (hf:xG c) (hb:Base c) (ho:c.own=false) {d:Dbt} (hd:d∈c.doubts) (hk:c.kind=6∨c.kind=9):dI (vJ c d)∧xG (vJ c d):=by
 obtain ⟨h1,h2,h3,h4,h5⟩:=hb
 have hn:=(hf.doubts d hd).2
 unfold vJ
 have hco:newO c.addr d.id d.parts c.accs=some (newC c.addr d.id d.parts c.accs):=by unfold newO; rw [if_pos hn]
 refine gC ⟨h1,h2,.inr (.inr (.inr ⟨h3,h4,ho,by rw [hco]; rfl,⟨d,hd,rfl⟩,hk⟩))⟩ ⟨hf.guess,hf.reqs,hf.rngs,hf.parts,hf.asked,hf.doubts,fun _ h=>?_,hf.nmem⟩ (by rw [hco]; rfl)
 simp only at h; rw [ho] at h; cases h
theorem pendH_drop (c:Cl):wU (kR c)=[]:=by
 unfold wU kR
 simp [List.filter_filter]
theorem xG.drop {c:Cl} (h:xG c):xG (kR c):=by
 refine ⟨h.guess,?_,h.rngs,h.parts,h.asked,h.doubts,h.coord,h.nmem⟩
 intro r hr
 obtain ⟨q,hq,rfl⟩:=List.mem_map.1 hr
 exact h.reqs _ (List.mem_map.2 ⟨q,(List.mem_filter.1 hq).1,rfl⟩)
theorem xG.noCoord {c:Cl} (h:xG c):xG { c with coord:=none }:=⟨h.guess,h.reqs,h.rngs,h.parts,h.asked,h.doubts,(fun h=>by cases h),h.nmem⟩
theorem closeF_said {c:Cl} (e:Int) (hf:xG c) (hp:wU c=[]) (hc:c.coord=none):Said (uM c e)∧xG (uM c e):=by
 unfold uM
 split
 ·exact ⟨uO _ hp hc,hf.say _⟩
 ·exact ⟨uO _ hp hc,(hf.opn false).say _⟩
theorem doubt_mem {c:Cl} (h:∃ d∈c.doubts,d.id=c.about):gN c∈c.doubts:=by
 unfold gN
 cases hd:c.doubts.find? (fun d=>decide (d.id=c.about)) with
 | none=>obtain ⟨d,h1,h2⟩:=h; have:=List.find?_eq_none.1 hd d h1; simp [h2] at this
 | some d=>exact List.mem_of_find?_eq_some hd
theorem xG.clear {c:Cl} (h:xG c):xG (kE c):=h.drop.noCoord
theorem pendH_clear (c:Cl):wU (kE c)=[]:=pendH_drop c
theorem nextF_ok {c:Cl} (hf:xG c) (hb:Base c) (ho:c.own=false) (hk:c.kind=6∨c.kind=9) (v:Int):(dI (nextF c v)∨Said (nextF c v))∧xG (nextF c v):=by
 unfold nextF
 split
 ·exact ⟨.inr (uO _ hb.2.2.1 hb.2.2.2.2),hf.say _⟩
 ·split
  ·exact ⟨.inr (uO _ hb.2.2.1 hb.2.2.2.2),hf.say _⟩
  ·rename_i d2 l hdl
   obtain ⟨a,b⟩:=resolveF_work hf hb ho (d:=d2) (by rw [hdl]; simp) hk
   exact ⟨.inl a,b⟩
theorem comeF_ok {c:Cl} (hf:xG c) (hb:c.busy=true∧Quiet c) (hw:c.waits=none) (hph:c.own=true∨(c.own=false∧(∃ d∈c.doubts,d.id=c.about)∧(c.kind=6∨c.kind=9))) (v:Int):(dI (bM c v)∨Said (bM c v))∧xG (bM c v):=by
 unfold bM
 have hf1:xG (kE c):=hf.clear
 have hp1:wU (kE c)=[]:=pendH_clear c
 split
 ·rename_i ho
  have h2:=uC (kE c) c.cur.id (xH c.cur) v hf.groups
  have hk:=vB h2
  obtain ⟨a,b⟩:=closeF_said (cameF v) (hf1.adds h2) (by rw [pendH_adds h2,hp1]) (by rw [hk.2.2.1]; rfl)
  exact ⟨.inr a,b⟩
 ·rename_i ho
  have ho':c.own=false:=by simpa using ho
  rcases hph with hph|⟨-,hd,hkind⟩
  ·rw [hph] at ho'; cases ho'
  ·have hdm:gN c∈c.doubts:=doubt_mem hd
   generalize gN c=d at hdm
   have hf2:xG { kE c with doubts:=c.doubts.filter fun x=>decide (x.id≠d.id) }:=⟨hf1.guess,hf1.reqs,hf1.rngs,hf1.parts,hf1.asked,fun x hx=>hf.doubts x (List.mem_filter.1 hx).1,(fun h=>by cases h),hf.nmem⟩
   have h2:gU { kE c with doubts:=c.doubts.filter fun x=>decide (x.id≠d.id) } (uJ (kE c) d v):=uC _ _ _ _ (hf.doubts d hdm).1
   have hk:=vB h2
   have hb2:Base { kE c with doubts:=c.doubts.filter fun x=>decide (x.id≠d.id) }:=⟨hb.1,hb.2,hp1,hw,rfl⟩
   exact nextF_ok (hf2.adds h2) (hb2.adds h2) (by rw [hk.2.2.2.1]; exact ho') (by rw [hk.2.2.2.2.2.1]; exact hkind) v
theorem overF_said {c:Cl} (hf:xG c) (h:dI c):Said (qF c)∧xG (qF c):=by
 unfold qF
 have hf1:xG (kE c):=hf.clear
 have hp1:wU (kE c)=[]:=pendH_clear c
 split
 ·rename_i hk
  split
  ·rename_i hc
   have ho:c.own=true:=by
    rcases h.2.2 with ⟨_,e,_⟩|⟨_,_,e,_⟩|⟨a,b,d,e⟩|⟨a,b,d,e,f,g⟩
    ·rw [e] at hc; cases hc
    ·rw [e] at hc; cases hc
    ·exact b
    ·omega
   refine closeF_said 25 ⟨hf1.guess,hf1.reqs,hf1.rngs,hf1.parts,hf1.asked,?_,(fun h=>by cases h),hf.nmem⟩ hp1 M
   intro d hd
   rcases List.mem_append.1 hd with hd|hd
   ·exact hf.doubts d hd
   ·rw [List.mem_singleton] at hd; subst hd
    exact ⟨hf.groups,hf.coord hc ho⟩
  ·have h2:=uC (kE c) c.cur.id (xH c.cur) 2 hf.groups
   have hk:=vB h2
   have hf2:=hf1.adds h2
   have hp2:=(pendH_adds h2).trans hp1
   have hc2:(jZ (kE c) c.cur.id (xH c.cur) 2).coord=none:=by rw [hk.2.2.1]; rfl
   generalize jZ (kE c) c.cur.id (xH c.cur) 2=c2 at hf2 hp2 hc2
   exact closeF_said 24 ⟨hf2.guess,hf2.reqs,hf2.rngs,hf2.parts,hf2.asked,hf2.doubts,(fun h=>by rw [hc2] at h; cases h),hf2.nmem⟩ hp2 hc2
 ·split
  ·exact lostF_said 0 hf1 hp1 M
  ·split
   ·exact ⟨uO _ hp1 M,hf1.say _⟩
   ·exact ⟨uO _ hp1 M,hf1.say _⟩
set_option maxHeartbeats 16000000
set_option maxRecDepth 4000
attribute [local irreducible] xY yW xC
abbrev pB (b:Nat):Value:=.pointer (some ⟨b,0,none⟩)
instance repSpn :Rep Spn where
 tid:=78
 size:=2
 rd:=fun _ _ x e=>e=[.int .i64 x.lo,.int .i64 x.hi]
 len:=by rintro _ _ _ _ rfl; rfl
 one:=by rintro _ _ _ _ rfl u hu; simp at hu; rcases hu with rfl|rfl<;>rfl
 mono:=fun _ h=>h
instance repDbt :Rep Dbt where
 tid:=195
 size:=3
 rd:=fun w0 L x e=>∃ a c a2 c2,e=[.int .i64 x.id,.slice a x.parts.length c,.slice a2 x.groups.length c2]∧RdL w0 L (.slice a x.parts.length c) x.parts∧RdL w0 L (.slice a2 x.groups.length c2) x.groups
 len:=by rintro _ _ _ _ ⟨_,_,_,_,rfl,_⟩; rfl
 one:=by
  rintro _ _ _ _ ⟨_,_,_,_,rfl,h,k⟩ u hu
  simp only [List.mem_cons,List.not_mem_nil,or_false] at hu
  rcases hu with rfl|rfl|rfl<;>rfl
 mono:=by rintro _ _ _ _ _ _ e ⟨_,_,_,_,rfl,h,k⟩; exact ⟨_,_,_,_,rfl,h.mono e,k.mono e⟩
instance repPkt :Rep Pkt where
 tid:=52
 size:=3
 rd:=fun w0 L x e=>∃ a c,e=[.int .i64 x.src,.int .i64 x.dst,.slice a x.bytes.length c]∧RdL w0 L (.slice a x.bytes.length c) x.bytes∧x.bytes.length≤c
 len:=by rintro _ _ _ _ ⟨_,_,rfl,_⟩; rfl
 one:=by
  rintro _ _ _ _ ⟨_,_,rfl,h⟩ u hu
  simp only [List.mem_cons,List.not_mem_nil,or_false] at hu
  rcases hu with rfl|rfl|rfl<;>rfl
 mono:=by rintro _ _ _ _ _ _ e ⟨_,_,rfl,h,k⟩; exact ⟨_,_,rfl,h.mono e,k⟩
theorem OwL.capOf {α:Type} [ρ:Rep α] {w0:World} {X h:Hp} {xs:List α} {a:Option Addr} {n c:Nat} (H:OwL w0 X xs (.slice a n c) h):xs.length≤c:=by
 obtain ⟨es,⟨h1,⟨ad,hv,hnil,_⟩|⟨bk,cap,spare,hv,rfl,h2,_⟩⟩,h4⟩:=H
 ·subst hnil
  have h5:xs.length=0:=(kU.length h4).symm
  omega
 ·have:=kU.length h4
  simp only [Value.slice.injEq] at hv
  omega
structure PRq where
 blk:Nat
instance repPRq :Rep PRq where
 tid:=142
 size:=1
 rd:=fun _ _ x e=>e=[pB x.blk]
 len:=by rintro _ _ _ _ rfl; rfl
 one:=by rintro _ _ _ _ rfl u hu; simp at hu; subst hu; rfl
 mono:=fun _ h=>h
abbrev xW (x:Cal) (d:Value):List Value:=[.int .i64 x.kind,.int .i64 x.block,.int .i64 x.set,.int .i64 x.snap,.int .i64 x.txn,.int .i64 x.src,.int .i64 x.dst,.int .i64 x.lo,.int .i64 x.hi,.int .i64 x.group,.int .i64 x.node,.int .i64 x.value,d]
def gT (w0:World) (X:Hp) (b tb:Nat):Hrd→Value→Prop
 | .quiet,v=>v=.func (.func 280) #[] #[]
 | .look,v=>∃ p,v=.func (.func 353) #[] [pB p].toArray∧At w0 X p 0 [pB b]
 | .read n,v=>∃ p q r,v=.func (.func 223) #[] [pB p,pB q,pB r].toArray∧At w0 X p 0 [pB tb]∧At w0 X q 0 [.int .i64 n]∧At w0 X r 0 [pB b]
 | .part o g,v=>∃ p q r s t e,v=.func (.func 294) #[] [pB p,pB q,pB r,pB s].toArray∧At w0 X p 0 [pB b]∧At w0 X q 0 [.pointer t]∧At w0 X r 0 e∧Rep.rd w0 X o e∧At w0 X s 0 [.int .i64 g]
 | .kept x,v=>∃ p q d,v=.func (.func 232) #[] [pB p,pB q].toArray∧At w0 X p 0 [pB b]∧At w0 X q 0 (xW x d)
 | .plan x,v=>∃ p q r s d,v=.func (.func 235) #[] [pB p,pB q].toArray∧At w0 X p 0 [pB b]∧At w0 X q 0 [.func (.func 161) #[] [pB r,pB s].toArray]∧At w0 X r 0 [pB b]∧At w0 X s 0 (xW x d)
 | .frz x n,v=>∃ p q r d,v=.func (.func 238) #[] [pB p,pB q,pB r].toArray∧At w0 X p 0 [pB b]∧At w0 X q 0 (xW x d)∧At w0 X r 0 [.int .i64 n]
 | .inst x n,v=>∃ p q r s t d,v=.func (.func 235) #[] [pB p,pB q].toArray∧At w0 X p 0 [pB b]∧At w0 X q 0 [.func (.func 299) #[] [pB r,pB s,pB t].toArray]∧At w0 X r 0 [pB b]∧At w0 X s 0 [.int .i64 n]∧At w0 X t 0 (xW x d)
 | .fin x n,v=>∃ p q r s t d,v=.func (.func 235) #[] [pB p,pB q].toArray∧At w0 X p 0 [pB b]∧At w0 X q 0 [.func (.func 300) #[] [pB r,pB s,pB t].toArray]∧At w0 X r 0 [pB b]∧At w0 X s 0 (xW x d)∧At w0 X t 0 [.int .i64 n]
 | .change x,v=>∃ p q d,v=.func (.func 240) #[] [pB p,pB q].toArray∧At w0 X p 0 [pB b]∧At w0 X q 0 (xW x d)
def WaitAt (w0:World) (X:Hp) (b tb:Nat):Option Wts→Value→Prop
 | none,v=>v=.nilFunc
 | some (.read x),v=>∃ p q d,v=.func (.func 147) #[] [pB p,pB q].toArray∧At w0 X p 0 [pB b]∧At w0 X q 0 (xW x d)
 | some .prep,v=>∃ p q,v=.func (.func 153) #[] [pB p,pB q].toArray∧At w0 X p 0 [pB b]∧At w0 X q 0 [pB tb]
 | some .snap,v=>∃ p q,v=.func (.func 155) #[] [pB p,pB q].toArray∧At w0 X p 0 [pB b]∧At w0 X q 0 [pB tb]
 | some (.kept x),v=>∃ p q d,v=.func (.func 156) #[] [pB p,pB q].toArray∧At w0 X p 0 [pB b]∧At w0 X q 0 (xW x d)
 | some (.again x),v=>∃ p q d,v=.func (.func 234) #[] [pB p,pB q].toArray∧At w0 X p 0 [pB b]∧At w0 X q 0 (xW x d)
theorem At.mono {w0:World} {X L R:Hp} (e:L=X+R) {b o:Nat} {c:List Value} (h:At w0 X b o c):At w0 L b o c:=At.frame (hf:=⟨e⟩) h
section
variable {w0:World} {X L R:Hp} {b tb:Nat}
theorem gT.mono (e:L=X+R) {h:Hrd} {v:Value} (H:gT w0 X b tb h v):gT w0 L b tb h v:=by
 cases h with
 | quiet=>exact H
 | look=>obtain ⟨p,e1,h1⟩:=H; exact ⟨p,e1,h1.mono e⟩
 | read n=>obtain ⟨p,q,r,e1,h1,h2,h3⟩:=H; exact ⟨p,q,r,e1,h1.mono e,h2.mono e,h3.mono e⟩
 | part o g=>obtain ⟨p,q,r,s,t,c,e1,h1,h2,h3,h4,h5⟩:=H; exact ⟨p,q,r,s,t,c,e1,h1.mono e,h2.mono e,h3.mono e,Rep.mono e h4,h5.mono e⟩
 | kept x=>obtain ⟨p,q,d,e1,h1,h2⟩:=H; exact ⟨p,q,d,e1,h1.mono e,h2.mono e⟩
 | plan x=>obtain ⟨p,q,r,s,d,e1,h1,h2,h3,h4⟩:=H; exact ⟨p,q,r,s,d,e1,h1.mono e,h2.mono e,h3.mono e,h4.mono e⟩
 | frz x n=>obtain ⟨p,q,r,d,e1,h1,h2,h3⟩:=H; exact ⟨p,q,r,d,e1,h1.mono e,h2.mono e,h3.mono e⟩
 | inst x n=>obtain ⟨p,q,r,s,t,d,e1,h1,h2,h3,h4,h5⟩:=H; exact ⟨p,q,r,s,t,d,e1,h1.mono e,h2.mono e,h3.mono e,h4.mono e,h5.mono e⟩
 | fin x n=>obtain ⟨p,q,r,s,t,d,e1,h1,h2,h3,h4,h5⟩:=H; exact ⟨p,q,r,s,t,d,e1,h1.mono e,h2.mono e,h3.mono e,h4.mono e,h5.mono e⟩
 | change x=>obtain ⟨p,q,d,e1,h1,h2⟩:=H; exact ⟨p,q,d,e1,h1.mono e,h2.mono e⟩
theorem gT.shape {h:Hrd} {v:Value} (H:gT w0 X b tb h v):∃ k cp,v=.func (.func k) #[] cp:=by
 cases h with
 | quiet=>exact ⟨_,_,H⟩
 | look=>obtain ⟨p,e1,h1⟩:=H; exact ⟨_,_,e1⟩
 | read n=>obtain ⟨p,q,r,e1,_⟩:=H; exact ⟨_,_,e1⟩
 | part o g=>obtain ⟨p,q,r,s,t,c,e1,_⟩:=H; exact ⟨_,_,e1⟩
 | kept x=>obtain ⟨p,q,d,e1,_⟩:=H; exact ⟨_,_,e1⟩
 | plan x=>obtain ⟨p,q,r,s,d,e1,_⟩:=H; exact ⟨_,_,e1⟩
 | frz x n=>obtain ⟨p,q,r,d,e1,_⟩:=H; exact ⟨_,_,e1⟩
 | inst x n=>obtain ⟨p,q,r,s,t,d,e1,_⟩:=H; exact ⟨_,_,e1⟩
 | fin x n=>obtain ⟨p,q,r,s,t,d,e1,_⟩:=H; exact ⟨_,_,e1⟩
 | change x=>obtain ⟨p,q,d,e1,_⟩:=H; exact ⟨_,_,e1⟩
theorem gT.free {h:Hrd} (hf:tfree h=true) {v:Value} {tb':Nat} (H:gT w0 X b tb h v):gT w0 X b tb' h v:=by
 cases h<;>first|exact H|cases hf
theorem WaitAt.mono (e:L=X+R) {h:Option Wts} {v:Value} (H:WaitAt w0 X b tb h v):WaitAt w0 L b tb h v:=by
 cases h with
 | none=>exact H
 | some w=>cases w with
  | read x=>obtain ⟨p,q,d,e1,h1,h2⟩:=H; exact ⟨p,q,d,e1,h1.mono e,h2.mono e⟩
  | prep=>obtain ⟨p,q,e1,h1,h2⟩:=H; exact ⟨p,q,e1,h1.mono e,h2.mono e⟩
  | snap=>obtain ⟨p,q,e1,h1,h2⟩:=H; exact ⟨p,q,e1,h1.mono e,h2.mono e⟩
  | kept x=>obtain ⟨p,q,d,e1,h1,h2⟩:=H; exact ⟨p,q,d,e1,h1.mono e,h2.mono e⟩
  | again x=>obtain ⟨p,q,d,e1,h1,h2⟩:=H; exact ⟨p,q,d,e1,h1.mono e,h2.mono e⟩
abbrev reqL (r:Rq) (p q w d hv:Value):List Value :=
 .int .i64 r.group::.int .i64 r.o.kind::.int .i64 r.o.client::.int .i64 r.o.seq::.int .i64 r.o.txn::.int .i64 r.o.age::.int .i64 r.o.epoch::.int .i64 r.o.lo::.int .i64 r.o.hi::.int .i64 r.o.block::.int .i64 r.o.snap::.int .i64 r.o.value::.int .i64 r.o.src::.int .i64 r.o.dst::p::q::w::d::.int .i64 r.frm::.int .i64 r.sent::.bool r.tidy::hv::[]
abbrev reqC (b:Nat) (c:List Value):Hp:=pt b (.cells c.toArray 145 (0,0))
def RqAt (w0:World) (X:Hp) (b tb:Nat) (p:Nat) (r:Rq) (h:Hp):Prop :=
 ∃ a1 c1 a2 c2 a3 c3 a4 c4 hv,h=reqC p (reqL r (.slice a1 r.o.parts.length c1) (.slice a2 r.o.reads.length c2) (.slice a3 r.o.writes.length c3) (.slice a4 r.o.data.length c4) hv) ∧
  RdL w0 X (.slice a1 r.o.parts.length c1) r.o.parts∧RdL w0 X (.slice a2 r.o.reads.length c2) r.o.reads∧RdL w0 X (.slice a3 r.o.writes.length c3) r.o.writes∧RdL w0 X (.slice a4 r.o.data.length c4) r.o.data∧gT w0 X b tb r.heard hv
theorem RqAt.mono (e:L=X+R) {p:Nat} {r:Rq} {h:Hp} (H:RqAt w0 X b tb p r h):RqAt w0 L b tb p r h:=by
 obtain ⟨a1,c1,a2,c2,a3,c3,a4,c4,hv,e1,h1,h2,h3,h4,h5⟩:=H
 exact ⟨a1,c1,a2,c2,a3,c3,a4,c4,hv,e1,h1.mono e,h2.mono e,h3.mono e,h4.mono e,h5.mono e⟩
def wX (w0:World) (X:Hp) (b tb:Nat):List PRq→List Rq→Hp→Prop
 | [],[],h=>h=0
 | p::ps,r::rs,h=>∃ h1 h2,RqAt w0 X b tb p.blk r h1∧wX w0 X b tb ps rs h2∧h=h1+h2
 | _,_,_=>False
theorem wX.mono (e:L=X+R):∀ {ps:List PRq} {rs:List Rq} {h:Hp},wX w0 X b tb ps rs h→wX w0 L b tb ps rs h
 | [],[],_,H=>H
 | p::ps,r::rs,_,⟨h1,h2,a,c,d⟩=>⟨h1,h2,a.mono e,wX.mono e c,d⟩
 | [],_::_,_,H=>H.elim
 | _::_,[],_,H=>H.elim
theorem wX.length :∀ {ps:List PRq} {rs:List Rq} {h:Hp},wX w0 X b tb ps rs h→ps.length=rs.length
 | [],[],_,H=>rfl
 | p::ps,r::rs,_,⟨h1,h2,a,c,d⟩=>by simp [wX.length c]
 | [],_::_,_,H=>H.elim
 | _::_,[],_,H=>H.elim
theorem wX.get :∀ {ps:List PRq} {rs:List Rq} {h:Hp},wX w0 X b tb ps rs h→∀ {i:Nat} {r:Rq},rs[i]?=some r →
  ∃ p h1 h2,ps[i]?=some p∧RqAt w0 X b tb p.blk r h1∧h=h1+h2∧(∀ {r' h'},RqAt w0 X b tb p.blk r' h'→wX w0 X b tb ps (rs.set i r') (h'+h2))∧wX w0 X b tb (ps.eraseIdx i) (rs.eraseIdx i) h2
 | p::ps,r::rs,_,⟨h1,h2,a,c,d⟩,0,r',hr=>by
  obtain rfl:r=r':=by simpa using hr
  exact ⟨p,h1,h2,rfl,a,d,fun {r' h'} H=>⟨h',h2,H,c,rfl⟩,c⟩
 | p::ps,r::rs,_,⟨h1,h2,a,c,d⟩,i+1,r',hr=>by
  obtain ⟨q,g1,g2,e1,e2,e3,e4,e5⟩:=wX.get c (i:=i) (r:=r') (by simpa using hr)
  refine ⟨q,g1,h1+g2,by simpa using e1,e2,by rw [d,e3]; ac_rfl,fun {r' h'} H=>⟨h1,h'+g2,a,e4 H,by ac_rfl⟩,⟨h1,g2,a,e5,rfl⟩⟩
 | [],[],_,_,_,_,hr=>by simp at hr
 | [],_::_,_,H,_,_,_=>H.elim
 | _::_,[],_,H,_,_,_=>H.elim
theorem wX.append :∀ {ps:List PRq} {rs:List Rq} {h:Hp},wX w0 X b tb ps rs h→∀ {p:Nat} {r:Rq} {h':Hp},RqAt w0 X b tb p r h'→wX w0 X b tb (ps++[⟨p⟩]) (rs++[r]) (h'+h)
 | [],[],_,H,p,r,h',H'=>by obtain rfl:=(show _=_ from H); exact ⟨h',0,H',rfl,rfl⟩
 | p::ps,r::rs,_,⟨h1,h2,a,c,d⟩,q,r',h',H'=>by subst d; exact ⟨h1,h'+h2,a,wX.append c H',by ac_rfl⟩
 | [],_::_,_,H,_,_,_,_=>H.elim
 | _::_,[],_,H,_,_,_,_=>H.elim
theorem wX.free {tb':Nat}:∀ {ps:List PRq} {rs:List Rq} {h:Hp},wX w0 X b tb ps rs h→(∀ r∈rs,tfree r.heard=true)→wX w0 X b tb' ps rs h
 | [],[],_,H,_=>H
 | p::ps,r::rs,_,⟨h1,h2,a,c,d⟩,hf=>by
  obtain ⟨a1,c1,a2,c2,a3,c3,a4,c4,hv,e1,k1,k2,k3,k4,k5⟩:=a
  exact ⟨h1,h2,⟨a1,c1,a2,c2,a3,c3,a4,c4,hv,e1,k1,k2,k3,k4,k5.free (hf r (by simp))⟩,wX.free c fun x hx=>hf x (by simp [hx]),d⟩
 | [],_::_,_,H,_=>H.elim
 | _::_,[],_,H,_=>H.elim
def ReqsAt (w0:World) (X:Hp) (b tb:Nat) (ps:List PRq) (rs:List Rq) (v:Value) (h:Hp):Prop:=∃ h1 h2,OwL w0 0 ps v h1∧wX w0 X b tb ps rs h2∧h=h1+h2
theorem ReqsAt.intro {w0:World} {X:Hp} {b tb:Nat} {ps:List PRq} {rs:List Rq} {v:Value} {h1 h2:Hp} (H1:OwL w0 0 ps v h1) (H2:wX w0 X b tb ps rs h2):ReqsAt w0 X b tb ps rs v (h1+h2):=⟨h1,h2,H1,H2,rfl⟩
def uL (w0:World) (X:Hp) (tb:Nat) (t:Txn) (h:Hp):Prop :=
 ∃ vr va vw ap cp hr ha hw,h=txnC tb (.int .i64 t.id::.int .i64 t.age::vr::va::vw::.slice ap t.parts.length cp::.int .i64 t.slo::.int .i64 t.shi::[])+(hr+(ha+hw)) ∧
  OwL w0 X t.reads vr hr∧OwL w0 0 t.asked va ha∧OwL w0 X t.writes vw hw∧RdL w0 X (.slice ap t.parts.length cp) t.parts
theorem uL.mono (e:L=X+R) {t:Txn} {h:Hp} (H:uL w0 X tb t h):uL w0 L tb t h:=by
 obtain ⟨vr,va,vw,ap,cp,hr,ha,hw,e1,h1,h2,h3,h4⟩:=H
 exact ⟨vr,va,vw,ap,cp,hr,ha,hw,e1,h1.mono e,h2,h3.mono e,h4.mono e⟩
end
structure Raw where
 mem:Value
 rngs0:Value
 sets:Value
 mr:Value
 guess:Value
 ended:Value
 dbts:Value
 reqs:Value
 opn:Value
 own:Value
 waits:Value
 coord:Value
 out:Value
 ansd:Value
abbrev clL (c:Cl) (V:Raw):List Value :=
 .int .i64 c.nodes::.int .i64 c.accs::.int .i64 c.clis::V.mem::V.rngs0::V.sets::.int .i64 c.id::.int .i64 c.addr::.int .i64 c.clock::.int .i64 c.seq::.int .i64 c.txns::V.mr::.int .i64 c.m.epoch::.int .i64 c.m.m1::.int .i64 c.m.m2::.int .i64 c.m.m3::.int .i64 c.m.m4::.int .i64 c.m.m5::.bool c.stale::V.guess::V.ended::V.dbts::.int .i64 c.round::V.reqs::V.opn::.bool c.busy::.int .i64 c.kind::.int .i64 c.since::V.own::V.waits::V.coord::.int .i64 c.about::.int .i64 c.started::V.out::.int .i64 c.ans.code::.int .i64 c.ans.txn::V.ansd::.bool c.answered::[]
abbrev wK (f:Bool) (tb:Nat):Value:=.pointer (bif f then some ⟨tb,0,none⟩ else none)
structure xT (w0:World) (X:Hp) (b:Nat) (c:Cl) (V:Raw) (tb:Nat) (ps:List PRq) (hG hE hD hR hT hK hO:Hp):Prop where
 mem:∃ a k,V.mem=.slice a c.nmem k
 rngs0:V.rngs0.oneCell'=true
 sets:∃ a k,V.sets=.slice a c.sets.length k∧RdL w0 X (.slice a c.sets.length k) c.sets
 mr:∃ a k,V.mr=.slice a c.m.rngs.length k∧RdL w0 X (.slice a c.m.rngs.length k) c.m.rngs
 guess:OwL w0 0 c.guess V.guess hG
 ended:∃ eb,V.ended=.map (some eb)∧qT Tryz.prog eb (vI c.ended) hE
 dbts:OwL w0 X c.doubts V.dbts hD
 reqs:ReqsAt w0 X b tb ps c.reqs V.reqs hR
 opn:V.opn=wK c.opn tb
 own:V.own=wK c.own tb
 txn:uL w0 X tb c.cur hT∨(c.opn=false∧c.own=false∧hT=0)
 waits:WaitAt w0 X b tb c.waits V.waits
 coord:match c.coord with
  | none=>V.coord=.pointer none∧hK=0
  | some k=>∃ kb,V.coord=pB kb∧uW w0 kb k hK
 out:OwL w0 X c.out V.out hO
 ansd:∃ a k,V.ansd=.slice a c.ans.data.length k∧RdL w0 X (.slice a c.ans.data.length k) c.ans.data
def kT (w0:World) (X:Hp) (b tb:Nat) (c:Cl) (S:Hp):Prop :=
 ∃ V ps hG hE hD hR hT hK hO,xT w0 X b c V tb ps hG hE hD hR hT hK hO∧S=cliC b (clL c V)+(hG+(hE+(hD+(hR+(hT+(hK+hO))))))
def CliL (w0:World) (X:Hp) (b tb:Nat) (c:Cl) (p:Nat) (S:Hp):Prop :=
 ∃ V ps hG hE hD hR hT hK hO,xT w0 X b c V tb (ps++[⟨p⟩]) hG hE hD hR hT hK hO∧S=cliC b (clL c V)+(hG+(hE+(hD+(hR+(hT+(hK+hO))))))
section
variable {w0:World} {X L R:Hp} {b tb:Nat} {c:Cl} {S:Hp}
theorem xT.mono (e:L=X+R) {V:Raw} {tb:Nat} {ps:List PRq} {hG hE hD hR hT hK hO:Hp} (H:xT w0 X b c V tb ps hG hE hD hR hT hK hO):xT w0 L b c V tb ps hG hE hD hR hT hK hO:=by
 obtain ⟨h1,h2,⟨a1,k1,e1,g1⟩,⟨a2,k2,e2,g2⟩,h5,h6,h7,⟨r1,r2,r3,r4,r5⟩,h9,h10,h11,h12,h13,h14,⟨a3,k3,e3,g3⟩⟩:=H
 exact ⟨h1,h2,⟨a1,k1,e1,g1.mono e⟩,⟨a2,k2,e2,g2.mono e⟩,h5,h6,h7.mono e,⟨r1,r2,r3,r4.mono e,r5⟩,h9,h10,h11.imp (fun h=>h.mono e) id,h12.mono e,h13,h14.mono e,⟨a3,k3,e3,g3.mono e⟩⟩
theorem kT.mono (e:L=X+R) (H:kT w0 X b tb c S):kT w0 L b tb c S:=by
 obtain ⟨V,ps,hG,hE,hD,hR,hT,hK,hO,hp,rfl⟩:=H
 exact ⟨V,ps,hG,hE,hD,hR,hT,hK,hO,hp.mono e,rfl⟩
theorem CliL.cli {p:Nat} (H:CliL w0 X b tb c p S):kT w0 X b tb c S:=by
 obtain ⟨V,ps,hG,hE,hD,hR,hT,hK,hO,hp,rfl⟩:=H
 exact ⟨V,ps++[⟨p⟩],hG,hE,hD,hR,hT,hK,hO,hp,rfl⟩
def kP (w0:World) (X:Hp) (b tb:Nat) (c:Cl) (h:Hp):Prop:=∃ E S,kT w0 (X+E) b tb c S∧X+E+S=h
theorem kP.trans {E:Hp} {h:Hp} (H:kP w0 (X+E) b tb c h):kP w0 X b tb c h:=by
 obtain ⟨F,S,h1,h2⟩:=H
 exact ⟨E+F,S,by rw [← yZ]; exact h1,by rw [← yZ]; exact h2⟩
theorem kP.now (H:kT w0 X b tb c S):kP w0 X b tb c (X+S):=⟨0,S,by rw [yA]; exact H,by rw [yA]⟩
def Now (w0:World) (X:Hp) (b tb:Nat) (c:Cl) (h:Hp):Prop:=∃ S,kT w0 X b tb c S∧X+S=h
theorem Now.after {h:Hp} (H:Now w0 X b tb c h):kP w0 X b tb c h:=by obtain ⟨S,h1,rfl⟩:=H; exact kP.now h1
theorem wX.last :∀ {ps:List PRq} {rs:List Rq} {p:Nat} {r:Rq} {h:Hp},wX w0 X b tb (ps++[⟨p⟩]) (rs++[r]) h→∃ h1 h2,RqAt w0 X b tb p r h1∧wX w0 X b tb ps rs h2∧h=h1+h2
 | [],[],p,r,h,⟨h1,h2,a,c,d⟩=>⟨h1,h2,a,c,d⟩
 | q::ps,r'::rs,p,r,h,⟨h1,h2,a,c,d⟩=>by
  obtain ⟨g1,g2,e1,e2,e3⟩:=wX.last (ps:=ps) (rs:=rs) c
  exact ⟨g1,h1+g2,e1,⟨h1,g2,a,e2,rfl⟩,by rw [d,e3]; ac_rfl⟩
 | [],r'::rs,p,r,h,⟨h1,h2,a,c,d⟩=>by have:=wX.length c; simp at this
 | q::ps,[],p,r,h,⟨h1,h2,a,c,d⟩=>by have:=wX.length c; simp at this
theorem end_cli {P:Program} {V:Raw} {ps:List PRq} {hG hE hD hR hT hK hO L R R2 fr:Hp} {rs:List ResultVar} {g:Env} {post:Value→Hp→Prop} (vs:List Value) (hres:ResOk P w0 g L rs vs) {cs:List Value}
  (H:xT w0 X b c V tb ps hG hE hD hR hT hK hO) [hb:HasPt b L (.cells cs.toArray 95 (0,0)) R] [hf:yJ (X+(hG+(hE+(hD+(hR+(hT+(hK+hO))))))+fr) R R2] (hcs:clL c V=cs)
  (hp:post (oneV vs) (X+(cliC b (clL c V)+(hG+(hE+(hD+(hR+(hT+(hK+hO))))))))):retD P w0 rs fr post .normal g L:=by
 subst hcs
 have e1:=hb.out
 have e2:=hf.out
 exact ⟨vs,_,R2,hres,hp,by rw [e1,e2]; simp only [cliC]; ac_rfl⟩
theorem ret_cli {P:Program} {V:Raw} {ps:List PRq} {hG hE hD hR hT hK hO L R R2 fr:Hp} {rs:List ResultVar} {g:Env} {post:Value→Hp→Prop} (vs:List Value) (hres:ResOk P w0 g L rs vs) {cs:List Value}
  (H:xT w0 X b c V tb ps hG hE hD hR hT hK hO) [hb:HasPt b L (.cells cs.toArray 95 (0,0)) R] [hf:yJ (X+(hG+(hE+(hD+(hR+(hT+(hK+hO))))))+fr) R R2] (hcs:clL c V=cs)
  (hp:post (oneV vs) (X+(cliC b (clL c V)+(hG+(hE+(hD+(hR+(hT+(hK+hO))))))))):retD P w0 rs fr post .ret g L:=by
 subst hcs
 have e1:=hb.out
 have e2:=hf.out
 exact ⟨vs,_,R2,hres,hp,by rw [e1,e2]; simp only [cliC]; ac_rfl⟩
theorem xT.now {V:Raw} {ps:List PRq} {hG hE hD hR hT hK hO:Hp} (H:xT w0 X b c V tb ps hG hE hD hR hT hK hO):Now w0 X b tb c (X+(cliC b (clL c V)+(hG+(hE+(hD+(hR+(hT+(hK+hO)))))))):=⟨_,⟨V,ps,hG,hE,hD,hR,hT,hK,hO,H,rfl⟩,rfl⟩
end
set_option synthInstance.maxHeartbeats 400000
set_option synthInstance.maxSize 100000
theorem zeK {G G' : Prop} (h : G') (f : Zh G'→G:=by intro h; (repeat (first|refine zF ?_|refine zB ?_|refine zE ?_|refine zK M M M ?_|refine zY M M M M M ?_|refine zM ?_|refine xD M M M (c':=(_::_::_::_::_::_::_::_::_::_::_::_::_::_::_::_::_::_::_::_::_::_::_::_::_::_::_::_::_::_::_::_::_::_::_::_::_::_::[])) M M M M ?_)); exact h.o) : G:=f ⟨h⟩
section
variable (w0:World) (X:Hp) (b tb:Nat) (c:Cl) (S:Hp)
theorem ask_spec (hS:kT w0 X b tb c S) (g:Nat) (o:Opn) (oe:List Value) (ho:Rep.rd w0 X o oe) (later:Int) (hd:Hrd) (hv:Value) (hh:gT w0 X b tb hd hv) (hs:0≤c.seq∧c.seq≤1000000000000) (hc:0≤c.clock∧c.clock≤1000000000000) (hl:0≤later∧later≤1) (hlen:c.reqs.length≤1000000000) :
  yO Tryz.prog w0 222 [pB b,.int .i64 g,.agg oe.toArray,.int .i64 later,hv] (X+S)
   (fun r h'=>∃ p S',r=pB p∧CliL w0 X b tb (qJ c g o later false hd) p S'∧X+S'=h'):=by
 obtain ⟨⟨vmem,vr0,vsets,vmr,vg,ve,vd,vrq,vop,vow,vw,vco,vou,van⟩,ps,hG,hE,hD,hR,hT,hK,hO,P,rfl⟩:=hS
 obtain ⟨r1,r2,r3,r4,rfl⟩:=P.reqs
 obtain ⟨a1,c1,a2,c2,a3,c3,a4,c4,rfl,q1,q2,q3,q4⟩:=ho
 have hlp:=r4.length
 obtain ⟨kf,cpf,rfl⟩:=hh.shape
 obtain ⟨ar,cr,hvr⟩:=r3.shape
 simp only at hvr
 subst hvr
 refine zN Tryz.func222 M Tryz.ntmps222 Tryz.results222 M fun fr=>?_
 repeat (first|refine zF ?_|refine zB ?_|refine zE ?_|refine zK M M M ?_|refine zY M M M M M ?_|refine yM M M M M M ?_|refine yU M M (by omega) (by omega) M M ?_|refine xD M M M (c':=(_::_::_::_::_::_::_::_::_::_::_::_::_::_::_::_::_::_::_::_::_::_::_::_::_::_::_::_::_::_::_::_::_::_::_::_::_::_::[])) M M M M ?_|refine xN M (c:=[_,_,_,_,_,_,_,_,_,_,_,_,_,_,_,_,_]) M M M (fun _=>?_))
 rename_i bo
 refine yB [9,11] [0,1,2,3,4,5,6,7,8,9,10,11] (by kernel_rfl) M (by kernel_rfl) (by kernel_rfl) ?_
 refine zaF ?_
 refine xS M M M M (kA M M M M M (c':=[_,_,_,_,_,_,_,_,_,_,_,_,_,_,_,_,_]) M) (xF.all _) ?_
 rintro _ _ rfl
 refine ⟨zka,?_⟩
 repeat (refine yD M M M M (zZ M M M) ?_)
 refine xS M M M M (kA M M M M M (c':=[_,_,_,_,_,_,_,_,_,_,_,_,_,_,_,_,_]) M) (xF.all _) ?_
 rintro _ _ rfl
 refine ⟨zka,?_⟩
 repeat (refine yI ?_)
 repeat (refine zF ?_)
 refine yB [10] [0,1,2,3,4,5,6,7,8,9,10,11] (by kernel_rfl) M (by kernel_rfl) (by kernel_rfl) ?_
 repeat (first|refine yH M M M M M ?_|refine yD M M M M (zZ M M M) ?_|refine yQ M M M M (yE M) (zG M (zS M)) ?_|refine yD M M M M (dE M M (by omega) (by omega)) ?_|refine yQ M M M M (yE M) (zL (vs:=[_,_,_,_,_,_,_,_,_,_,_,_,_,_,_,_,_]) M M M) ?_|refine yD M M M M (wJ (vs:=[_,_,_,_,_]) (cells:=[_,_,_,_,_,_,_,_,_,_,_,_,_,_,_,_,_,_,_,_,_,_]) M M) ?_)
 refine xS M M M M (ev_box M) (xF.all _) ?_
 rintro _ _ ⟨bp,rfl,hL⟩
 have hL':_=reqC bp (.int .i64 g::.int .i64 o.kind::.int .i64 c.id::.int .i64 (c.seq+1)::.int .i64 o.txn::.int .i64 o.age::.int .i64 o.epoch::.int .i64 o.lo::.int .i64 o.hi::.int .i64 o.block::.int .i64 o.snap::.int .i64 o.value::.int .i64 o.src::.int .i64 o.dst::.slice a1 o.parts.length c1::.slice a2 o.reads.length c2::.slice a3 o.writes.length c3::.slice a4 o.data.length c4::.int .i64 (c.clock+later)::.int .i64 (-1)::.bool false::.func (.func kf) #[] cpf::[])+_:=hL
 subst hL'
 clear hL
 refine ⟨zka,?_⟩
 refine zaD ?_
 repeat (first|refine zF ?_|refine zB ?_|refine zK M M M ?_|refine zY M M M M M ?_|refine yM M M M M M ?_|refine vM (vs:=[_]) (cells:=[_]) M M M M M M (fun _=>?_))
 refine kF M M (xR (X:=0) (h:=r1) (ns:=[PRq.mk bp]) M M r3 (wQ M) (kU.one M) M M M M M (by rw [hlp,List.length_singleton]; omega)) ?_
 rintro v5 _ ⟨h5,ho5,rfl⟩
 obtain ⟨a5,c5,rfl⟩:=ho5.shape
 refine zeK ?_
 have hq:RqAt w0 X b tb bp (reqF c g o later false hd) (reqC bp (.int .i64 g::.int .i64 o.kind::.int .i64 c.id::.int .i64 (c.seq+1)::.int .i64 o.txn::.int .i64 o.age::.int .i64 o.epoch::.int .i64 o.lo::.int .i64 o.hi::.int .i64 o.block::.int .i64 o.snap::.int .i64 o.value::.int .i64 o.src::.int .i64 o.dst::.slice a1 o.parts.length c1::.slice a2 o.reads.length c2::.slice a3 o.writes.length c3::.slice a4 o.data.length c4::.int .i64 (c.clock+later)::.int .i64 (-1)::.bool false::.func (.func kf) #[] cpf::[])) :=
  ⟨a1,c1,a2,c2,a3,c3,a4,c4,_,rfl,q1,q2,q3,q4,hh⟩
 have hP:xT w0 X b (qJ c g o later false hd) ⟨vmem,vr0,vsets,vmr,vg,ve,vd,.slice a5 (ps++[PRq.mk bp]).length c5,vop,vow,vw,vco,vou,van⟩ tb (ps++[PRq.mk bp]) hG hE hD _ hT hK hO :=
  xT.mk P.mem P.rngs0 P.sets P.mr P.guess P.ended P.dbts (ReqsAt.intro ho5 (wX.append r4 hq)) P.opn P.own P.txn P.waits P.coord P.out P.ansd
 exact ret_cli [_] ⟨rfl,trivial⟩ hP (by exact rfl) ⟨bp,_,rfl,⟨_,ps,hG,hE,hD,_,hT,hK,hO,hP,rfl⟩,rfl⟩
theorem qL (hS:kT w0 X b tb c S) (a:Ans) (ad:Option Addr) (cp:Nat) (ha:RdL w0 X (.slice ad a.data.length cp) a.data) :
  yO Tryz.prog w0 139 [pB b,.agg [.int .i64 a.code,.int .i64 a.txn,.slice ad a.data.length cp].toArray] (X+S) (fun r h'=>Now w0 X b tb (sayF c a) h'):=by
 obtain ⟨⟨vmem,vr0,vsets,vmr,vg,ve,vd,vrq,vop,vow,vw,vco,vou,van⟩,ps,hG,hE,hD,hR,hT,hK,hO,P,rfl⟩:=hS
 refine zN Tryz.func139 M Tryz.ntmps139 Tryz.results139 M fun fr=>?_
 repeat (first|refine zF ?_|refine zB ?_|refine zE ?_|refine zK M M M ?_|refine zY M M M M M ?_|refine xD M M M (c':=(_::_::_::_::_::_::_::_::_::_::_::_::_::_::_::_::_::_::_::_::_::_::_::_::_::_::_::_::_::_::_::_::_::_::_::_::_::_::[])) M M M M ?_|refine xJ M (vs:=[_,_,_]) M M M M M ?_|refine yY M (vs:=[_,_,_]) M M M M (c':=(_::_::_::_::_::_::_::_::_::_::_::_::_::_::_::_::_::_::_::_::_::_::_::_::_::_::_::_::_::_::_::_::_::_::_::_::_::_::[])) M M ?_|refine xN M (c:=[_,_,_]) M M M (fun _=>?_))
 have hP:xT w0 X b (sayF c a) ⟨vmem,vr0,vsets,vmr,vg,ve,vd,vrq,vop,.pointer none,.nilFunc,vco,vou,.slice ad a.data.length cp⟩ tb ps hG hE hD hR hT hK hO :=
  ⟨P.mem,P.rngs0,P.sets,P.mr,P.guess,P.ended,P.dbts,P.reqs,P.opn,rfl,P.txn.imp id (fun h=>⟨h.1,rfl,h.2.2⟩),rfl,P.coord,P.out,⟨ad,cp,rfl,ha⟩⟩
 exact end_cli [] trivial hP (by exact rfl) hP.now
theorem xL (hS:kT w0 X b tb c S) (e:Int) :
  yO Tryz.prog w0 126 [pB b,.int .i64 e] (X+S) (fun r h'=>Now w0 X b tb (jC c e) h'):=by
 refine zN Tryz.func126 M Tryz.ntmps126 Tryz.results126 M fun fr=>?_
 repeat (first|refine zB ?_|refine zK M M M ?_|refine yL (vs:=[_]) (cells:=[_,_,_]) M M M M ?_)
 refine zX M M (zQ M M M) (qL w0 X b tb c S hS ⟨e,0,[]⟩ none 0 (RdL.nil _ _ _)) ?_
 rintro _ _ h
 repeat (refine zE ?_)
 exact ⟨[],_,_,trivial,h,yJ.out⟩
end
structure OpSz (o:Opn):Prop where
 nums:NumsIn o
 parts:o.parts.length≤1000000000
 reads:o.reads.length≤1000000000
 writes:o.writes.length≤1000000000
 data:o.data.length≤1000000000
structure Bd (n:Nat) (c:Cl):Prop where
 seq:0≤c.seq∧c.seq≤n
 clock:0≤c.clock∧c.clock≤n
 reqs:c.reqs.length≤n
 ops:∀ r∈c.reqs.map vS,OpSz r.o
 out:c.out.length≤n
 id:1≤c.id∧c.id≤4∧c.addr=100+c.id
theorem Bd.mono {n m:Nat} {c:Cl} (h:Bd n c) (hm:n≤m):Bd m c:=⟨⟨h.seq.1,by have:=h.seq.2; omega⟩,⟨h.clock.1,by have:=h.clock.2; omega⟩,by have:=h.reqs; omega,h.ops,by have:=h.out; omega,h.id⟩
theorem OpSz.asked {o:Opn} (h:OpSz o) {a s:Int} (ha:I64 a) (hs:I64 s):OpSz { o with client:=a,seq:=s }:=⟨⟨ha,hs,h.nums.2.2⟩,h.parts,h.reads,h.writes,h.data⟩
theorem Bd.ask {n:Nat} {c:Cl} (h:Bd n c) (hn:n≤1000000000) (g:Nat) {o:Opn} (ho:OpSz o) (l:Int) (t:Bool) (hd:Hrd):Bd (n+1) (qJ c g o l t hd):=by
 have h1:=h.seq
 have h2:=h.id
 refine ⟨⟨by simp only [qJ]; omega,by simp only [qJ]; omega⟩,⟨h.clock.1,by have:=h.clock.2; simp only [qJ]; omega⟩,by have:=h.reqs; simp only [qJ,List.length_append,List.length_singleton]; omega,?_,by have:=h.out; simp only [qJ]; omega,h.id⟩
 intro r hr
 simp only [qJ,List.map_append,List.mem_append] at hr
 rcases hr with hr|hr
 ·exact h.ops r hr
 ·obtain ⟨q,hq,rfl⟩:=List.mem_map.1 hr
  rw [List.mem_singleton] at hq; subst hq
  exact ho.asked (by unfold I64; omega) (by unfold I64; omega)
theorem jI {w0:World} {L R:Hp} {b:Nat} {e:List Value} {t:TypeId} {fz:Nat × Nat} [hb:HasPt b L (.cells e.toArray t fz) R]:At w0 L b 0 e:=fun j u hu=>by rw [Nat.zero_add]; exact zS hu
theorem zcM {G G' : Prop} (h : G') (f : Zh G'→G:=by intro h; (repeat (first|refine zP ?_|refine zI M ?_)); exact h.o) : G:=f ⟨h⟩
theorem zeL {G G' : Prop} (h : G') (f : Zh G'→G:=by intro h; (repeat (first|refine zE ?_|refine zK M M M ?_|refine zY M M M M M ?_|refine xD M M M (c':=[_,_,_,_,_,_,_,_,_,_,_,_,_,_,_,_,_,_,_,_,_,_]) M M M M ?_)); exact h.o) : G:=f ⟨h⟩
section
variable (w0:World) (X:Hp) (b tb:Nat) (c:Cl) (S:Hp) (n:Nat)
theorem quiet_spec (hS:kT w0 X b tb c S) (hB:Bd n c) (hn:n≤1000000000) (g:Nat) (o:Opn) (oe:List Value) (ho:Rep.rd w0 X o oe) :
  yO Tryz.prog w0 208 [pB b,.int .i64 g,.agg oe.toArray] (X+S) (fun r h'=>Now w0 X b tb (quietF c g o) h'):=by
 have hask:=ask_spec w0 X b tb c S hS g o oe ho 0 .quiet (.func (.func 280) #[] #[]) M ⟨hB.seq.1,by have:=hB.seq.2; omega⟩ ⟨hB.clock.1,by have:=hB.clock.2; omega⟩ (by omega) (by have:=hB.reqs; omega)
 obtain ⟨a1,c1,a2,c2,a3,c3,a4,c4,rfl,-⟩:=ho
 refine zN Tryz.func208 M Tryz.ntmps208 Tryz.results208 M fun fr=>?_
 repeat (first|refine zF ?_|refine zB ?_|refine zE ?_|refine zK M M M ?_|refine xJ M (vs:=[_,_,_,_,_,_,_,_,_,_,_,_,_,_,_,_,_]) M M M M M ?_|refine xN M (c:=[_,_,_,_,_,_,_,_,_,_,_,_,_,_,_,_,_]) M M M (fun _=>?_))
 refine zX M M (zQ M M M) hask ?_
 rintro _ _ ⟨p,S',rfl,hL,rfl⟩
 obtain ⟨⟨vmem,vr0,vsets,vmr,vg,ve,vd,vrq,vop,vow,vw,vco,vou,van⟩,ps,hG,hE,hD,hR,hT,hK,hO,P,rfl⟩:=hL
 obtain ⟨r1,r2,r3,r4,rfl⟩:=P.reqs
 obtain ⟨h1,h2,hq,r6,rfl⟩:=wX.last r4
 obtain ⟨b1,d1,b2,d2,b3,d3,b4,d4,hv,rfl,q1,q2,q3,q4,hh⟩:=hq
 refine zeL ?_
 have hP:xT w0 X b (quietF c g o) ⟨vmem,vr0,vsets,vmr,vg,ve,vd,vrq,vop,vow,vw,vco,vou,van⟩ tb (ps++[PRq.mk p]) hG hE hD _ hT hK hO :=
  xT.mk P.mem P.rngs0 P.sets P.mr P.guess P.ended P.dbts (ReqsAt.intro r3 (wX.append r6 (p:=p) (r:=reqF c g o 0 true .quiet) ⟨b1,d1,b2,d2,b3,d3,b4,d4,hv,rfl,q1,q2,q3,q4,hh⟩)) P.opn P.own P.txn P.waits P.coord P.out P.ansd
 exact end_cli [] trivial hP (by exact rfl) hP.now
theorem looking_spec (hS:kT w0 X b tb c S) (hB:Bd n c) (hn:n≤1000000000) (later:Int) (hl:0≤later∧later≤1) :
  yO Tryz.prog w0 296 [pB b,.int .i64 later] (X+S) (fun r h'=>kP w0 X b tb (lookF c later) h'):=by
 refine zN Tryz.func296 M Tryz.ntmps296 Tryz.results296 M fun fr=>?_
 repeat (first|refine zF ?_|refine zB ?_|refine zE ?_|refine zK M M M ?_|refine yM M M M M M ?_|refine yL (vs:=[_]) (cells:=[_,_,_,_,_,_,_,_,_,_,_,_,_,_,_,_,_]) M M M M ?_|refine xN M (c:=[_]) M M M (fun _=>?_)|refine uI M M M ?_)
 rename_i bx
 have hS2:kT w0 (X+pt bx (.cells [pB b].toArray 24 (0,0))) b tb c S:=hS.mono M
 have hask:=ask_spec w0 _ b tb c S hS2 0 (op0 8) (wS (op0 8) (.slice none 0 0) (.slice none 0 0) (.slice none 0 0) (.slice none 0 0)) ⟨none,0,none,0,none,0,none,0,rfl,RdL.nil _ _ _,RdL.nil _ _ _,RdL.nil _ _ _,RdL.nil _ _ _⟩ later .look (.func (.func 353) #[] [pB bx].toArray) ⟨bx,rfl,jI⟩ ⟨hB.seq.1,by have:=hB.seq.2; omega⟩ ⟨hB.clock.1,by have:=hB.clock.2; omega⟩ hl (by have:=hB.reqs; omega)
 refine zX M M (zQ M M M) hask ?_
 rintro _ _ ⟨p,S',rfl,hL,rfl⟩
 obtain ⟨⟨vmem,vr0,vsets,vmr,vg,ve,vd,vrq,vop,vow,vw,vco,vou,van⟩,ps,hG,hE,hD,hR,hT,hK,hO,P,rfl⟩:=hL
 obtain ⟨r1,r2,r3,r4,rfl⟩:=P.reqs
 obtain ⟨h1,h2,hq,r6,rfl⟩:=wX.last r4
 obtain ⟨b1,d1,b2,d2,b3,d3,b4,d4,hv,rfl,q1,q2,q3,q4,hh⟩:=hq
 refine zeL ?_
 have hP:xT w0 (X+pt bx (.cells [pB b].toArray 24 (0,0))) b (lookF c later) ⟨vmem,vr0,vsets,vmr,vg,ve,vd,vrq,vop,vow,vw,vco,vou,van⟩ tb (ps++[PRq.mk p]) hG hE hD _ hT hK hO :=
  xT.mk P.mem P.rngs0 P.sets P.mr P.guess P.ended P.dbts (ReqsAt.intro r3 (wX.append r6 (p:=p) (r:=reqF c 0 (op0 8) later true .look) ⟨b1,d1,b2,d2,b3,d3,b4,d4,hv,rfl,q1,q2,q3,q4,hh⟩)) P.opn P.own P.txn P.waits P.coord P.out P.ansd
 exact end_cli [] trivial hP (by exact rfl) hP.now.after.trans
theorem turn_spec (hS:kT w0 X b tb c S) (hB:Bd n c) (hn:n≤1000000000) :
  yO Tryz.prog w0 233 [pB b] (X+S) (fun r h'=>kP w0 X b tb (wF c) h'):=by
 have hl:=fun (S':Hp) (hS':kT w0 X b tb { c with stale:=true } S')=>looking_spec w0 X b tb { c with stale:=true } S' n hS' ⟨hB.seq,hB.clock,hB.reqs,hB.ops,hB.out,hB.id⟩ hn 0 (by omega)
 obtain ⟨⟨vmem,vr0,vsets,vmr,vg,ve,vd,vrq,vop,vow,vw,vco,vou,van⟩,ps,hG,hE,hD,hR,hT,hK,hO,P,rfl⟩:=hS
 refine zN Tryz.func233 M Tryz.ntmps233 Tryz.results233 M fun fr=>?_
 refine zbA ?_
 unfold wF
 cases hst:c.stale
 ·repeat (first|refine zF ?_|refine zB ?_|refine zE ?_|refine zK M M M ?_|refine zY M M M M M ?_|refine zJ M ?_|refine xD M M M (c':=(_::_::_::_::_::_::_::_::_::_::_::_::_::_::_::_::_::_::_::_::_::_::_::_::_::_::_::_::_::_::_::_::_::_::_::_::_::_::[])) M M M M ?_)
  have hP:xT w0 X b { c with stale:=true } ⟨vmem,vr0,vsets,vmr,vg,ve,vd,vrq,vop,vow,vw,vco,vou,van⟩ tb ps hG hE hD hR hT hK hO :=
   xT.mk P.mem P.rngs0 P.sets P.mr P.guess P.ended P.dbts P.reqs P.opn P.own P.txn P.waits P.coord P.out P.ansd
  refine zX M M (zQ M M M) (hl _ ⟨_,ps,hG,hE,hD,hR,hT,hK,hO,hP,rfl⟩) ?_
  rintro _ _ hA
  repeat (refine zE ?_)
  exact ⟨[],_,_,trivial,hA,yJ.out⟩
 ·refine zcM ?_
  exact end_cli [] trivial P (by exact rfl) P.now.after
theorem drop1_spec (r:Rq) (p:Nat) (h:Hp) (hr:RqAt w0 X b tb p r h):yO Tryz.prog w0 207 [pB p] h (fun v h'=>v=.bool (!r.tidy)∧h=h'):=by
 obtain ⟨b1,d1,b2,d2,b3,d3,b4,d4,hv,rfl,q1,q2,q3,q4,hh⟩:=hr
 refine zN Tryz.func207 M Tryz.ntmps207 Tryz.results207 M fun fr=>?_
 refine zdA ?_
 exact ⟨[_],_,_,⟨rfl,trivial⟩,⟨rfl,rfl⟩,yJ.out⟩
end
set_option maxHeartbeats 4000000
section
variable (w0:World) (X:Hp) (b tb:Nat) (c:Cl) (S:Hp) (n:Nat)
theorem came_spec (v:Int):yO Tryz.prog w0 122 [.int .i64 v] 0 (fun r h'=>r=.int .i64 (cameF v)∧0=h'):=by
 refine zN Tryz.func122 M Tryz.ntmps122 Tryz.results122 M fun fr=>?_
 refine zaC ?_
 refine yF M M (yK M M) (fun h=>?_) (fun h=>?_)
 ·refine zaB ?_
  exact ⟨[_],0,_,⟨rfl,trivial⟩,⟨by unfold cameF; rw [if_pos h]; rfl,rfl⟩,yJ.out⟩
 ·refine zbD ?_
  exact ⟨[_],0,_,⟨rfl,trivial⟩,⟨by unfold cameF; rw [if_neg h]; rfl,rfl⟩,yJ.out⟩
theorem qO (hS:kT w0 X b tb c S) (e:Int) (ho:c.kind=7→c.own=true) :
  yO Tryz.prog w0 121 [pB b,.int .i64 e] (X+S) (fun r h'=>Now w0 X b tb (uM c e) h'):=by
 have m1:c.kind=7→uM c e=sayF c ⟨e,c.cur.id,[]⟩:=fun h=>by unfold uM; rw [if_pos h]
 have m2:c.kind≠7→uM c e=sayF { c with opn:=false } ⟨e,0,[]⟩:=fun h=>by unfold uM; rw [if_neg h]
 obtain ⟨⟨vmem,vr0,vsets,vmr,vg,ve,vd,vrq,vop,vow,vw,vco,vou,van⟩,ps,hG,hE,hD,hR,hT,hK,hO,P,rfl⟩:=hS
 refine zN Tryz.func121 M Tryz.ntmps121 Tryz.results121 M fun fr=>?_
 repeat (first|refine zF ?_|refine zB ?_|refine zE ?_|refine zK M M M ?_|refine zY M M M M M ?_|refine yM M M M M M ?_|refine yL (vs:=[_]) (cells:=[_,_,_]) M M M M ?_|refine yY M (vs:=[_,_,_]) M M M M (c':=[_,_,_]) M M ?_|refine xK (c:=[_,_,_]) M M M (fun _=>?_))
 refine yF M M (yK M M) (fun h=>?_) (fun h=>?_)
 ·rw [m1 h]
  have how:=ho h
  have hvo:=P.own
  rw [how] at hvo
  simp only [wK,cond_true] at hvo
  subst hvo
  have hT2:uL w0 X tb c.cur hT:=by
   rcases P.txn with h|h
   ·exact h
   ·rw [h.2.1] at how; cases how
  obtain ⟨vr,va,vw',ap,cp,hr,ha,hw,rfl,k1,k2,k3,k4⟩:=id hT2
  repeat (first|refine zB ?_|refine zE ?_|refine zK M M M ?_|refine zY M M M M M ?_|refine yM M M M M M ?_|refine zJ M ?_|refine xD M M M (c':=[_,_,_]) M M M M ?_|refine xJ M (vs:=[_,_,_]) M M M M M ?_)
  refine zX M M (zQ M M M) (qL w0 X b tb c _ ⟨_,ps,hG,hE,hD,hR,_,hK,hO,P,rfl⟩ ⟨e,c.cur.id,[]⟩ none 0 (RdL.nil _ _ _)) ?_
  rintro _ _ hA
  repeat (refine zE ?_)
  exact ⟨[],_,_,trivial,hA,yJ.out⟩
 ·rw [m2 h]
  repeat (first|refine zB ?_|refine zE ?_|refine zK M M M ?_|refine zY M M M M M ?_|refine zI M ?_|refine xD M M M (c':=(_::_::_::_::_::_::_::_::_::_::_::_::_::_::_::_::_::_::_::_::_::_::_::_::_::_::_::_::_::_::_::_::_::_::_::_::_::_::[])) M M M M ?_|refine xJ M (vs:=[_,_,_]) M M M M M ?_)
  have hP:xT w0 X b { c with opn:=false } ⟨vmem,vr0,vsets,vmr,vg,ve,vd,vrq,.pointer none,vow,vw,vco,vou,van⟩ tb ps hG hE hD hR hT hK hO :=
   xT.mk P.mem P.rngs0 P.sets P.mr P.guess P.ended P.dbts P.reqs M P.own (P.txn.imp id fun h=>⟨rfl,h.2⟩) P.waits P.coord P.out P.ansd
  refine zX M M (zQ M M M) (qL w0 X b tb { c with opn:=false } _ ⟨_,ps,hG,hE,hD,hR,hT,hK,hO,hP,rfl⟩ ⟨e,0,[]⟩ none 0 (RdL.nil _ _ _)) ?_
  rintro _ _ hA
  repeat (refine zE ?_)
  exact ⟨[],_,_,trivial,hA,yJ.out⟩
end
end Sl
end Go.Proofs.YtfahijncpmlhjaaGreat
namespace Go.Proofs.YtfahijncpmlhjaaGreat
open Go Go.RowKit
namespace Sl
theorem planned_grp (x:Cal) (h:jF (planOp x)=0):grp x.src∧grp x.dst:=by
 by_cases hp:PlacedP (planOp x)
 ·obtain ⟨_,h2,_⟩:=hp
  have h3:=h2.2.2.1 M
  simp only [planOp] at h3
  unfold grp; omega
 ·exfalso
  unfold jF at h
  split at h
  ·omega
  split at h
  ·omega
  split at h
  ·omega
  split at h
  ·omega
  rw [if_pos (fun hh=>hp hh.1)] at h
  omega
theorem chain_grp :∀ {l:List Rng} {a:Int} {had:List Int} {n e:Int},chainF l a had n=some e→∀ r∈l,grp r.group
 | [],_,_,_,_,_=>by simp
 | r::l,a,had,n,e,h=>by
  simp only [chainF] at h
  split at h
  ·cases h
  ·rename_i hn
   intro x hx
   rcases List.mem_cons.1 hx with rfl|hx
   ·simp only [not_or] at hn; unfold grp; omega
   ·exact chain_grp h x hx
theorem checkR_grp {m:Mpp} (h:dZ m=0):∀ r∈m.rngs,grp r.group:=by
 unfold dZ at h
 split at h
 ·omega
 ·rename_i e he; exact chain_grp he
theorem getMap_grp (b:List Bt) (h:(jN b).2=0):∀ r∈(jN b).1.rngs,grp r.group:=by
 unfold jN at h ⊢
 split
 ·simp [noMap]
 ·rename_i h1
  rw [if_neg h1] at h
  simp only at h ⊢
  split
  ·simp [noMap]
  ·rename_i h2
   rw [if_neg h2] at h
   split
   ·simp [noMap]
   ·rename_i h3
    simp only [ne_eq,Decidable.not_not] at h3
    exact checkR_grp h3
theorem xG.map {c:Cl} (h:xG c) {m:Mpp} (hm:∀ r∈m.rngs,grp r.group):xG { c with m:=m }:=⟨h.guess,h.reqs,hm,h.parts,h.asked,h.doubts,h.coord,h.nmem⟩
def Learns (c c':Cl):Prop:=∃ m,c'={ c with m:=m }∧(xG c→xG c')
theorem learnF_learns (c:Cl) (b:List Bt):Learns c (jS c b):=by
 unfold jS
 split
 ·rename_i h; exact ⟨_,rfl,fun hf=>hf.map (getMap_grp b h.1)⟩
 ·exact ⟨c.m,rfl,id⟩
theorem Base.learns {c c':Cl} (h:Base c) (s:Learns c c'):Base c':=by obtain ⟨m,rfl,-⟩:=s; exact h
def Any (c:Cl):Prop:=dI c∨Rest c
theorem any_adds {c c':Cl} (h:Any c) (s:gU c c'):Any c'∧c'.busy=c.busy:=by
 have hp:=pendH_adds s
 have hk:=vB s
 refine ⟨?_,hk.1⟩
 obtain ⟨_,_,_,l,rfl,hl⟩:=s
 simp only [Any,dI,Rest,Quiet,PhA,PhB,PhC,PhD,PhI,hp,kindW,kindH] at h ⊢
 exact h
theorem any_learns {c c':Cl} (h:Any c) (s:Learns c c'):Any c'∧c'.busy=c.busy:=by
 obtain ⟨m,rfl,-⟩:=s
 exact ⟨h,rfl⟩
theorem any_stale {c:Cl} (h:Any c) (b:Bool):Any { c with stale:=b }:=h
theorem xG.stale {c:Cl} (h:xG c) (b:Bool):xG { c with stale:=b }:=⟨h.guess,h.reqs,h.rngs,h.parts,h.asked,h.doubts,h.coord,h.nmem⟩
theorem goF_any {c:Cl} (h:Any c) (hf:xG c):Any (goF c)∧(goF c).busy=c.busy∧xG (goF c):=by
 unfold goF
 split
 ·exact ⟨h,rfl,hf⟩
 ·rename_i w hw
  rcases h with ⟨h1,h2,h3⟩|⟨h1,h2,h3⟩
  ·have hb:Base { c with waits:=none }∧kindW { c with waits:=none } w:=by
    rcases h3 with ⟨a,b,w',e,k⟩|⟨_,e,_⟩|⟨_,_,e,_⟩|⟨_,e,_⟩
    ·rw [hw] at e; cases e
     exact ⟨⟨h1,h2,a,rfl,b⟩,by cases w<;>exact k⟩
    ·rw [hw] at e; cases e
    ·rw [hw] at e; cases e
    ·rw [hw] at e; cases e
   have hf2:xG { c with waits:=none }:=⟨hf.guess,hf.reqs,hf.rngs,hf.parts,hf.asked,hf.doubts,hf.coord,hf.nmem⟩
   obtain ⟨a,b⟩:=runW_work hf2 hb.1 hb.2
   exact ⟨.inl a,by rw [a.1,h1],b⟩
  ·rw [h3.2.1] at hw; cases hw
def vX (c c':Cl):Prop:=xG c'∧((c.busy=true∧(dI c'∨Said c'))∨(c.busy=false∧Rest c'))
theorem vX.of_any {c c':Cl} (h:Any c') (hb:c'.busy=c.busy) (hf:xG c'):vX c c':=by
 refine ⟨hf,?_⟩
 rcases h with h|h
 ·exact .inl ⟨by rw [← hb]; exact h.1,.inl h⟩
 ·exact .inr ⟨by rw [← hb]; exact h.1,h⟩
theorem heard_look {c:Cl} (h:Any c) (hf:xG c) (x:Res):vX c (xX c .look x):=by
 simp only [xX]
 split
 ·have:=any_adds h (lookF_adds c 1)
  exact .of_any this.1 this.2 (hf.adds (lookF_adds c 1))
 ·have hl:=learnF_learns c x.data
  have h1:=any_learns h hl
  have hf1:xG (jS c x.data):=hl.choose_spec.2 hf
  generalize jS c x.data=c1 at h1 hf1
  split
  ·have:=any_adds h1.1 (lookF_adds c1 1)
   exact .of_any this.1 (this.2.trans h1.2) (hf1.adds (lookF_adds c1 1))
  ·have:=goF_any (any_stale h1.1 false) (hf1.stale false)
   exact .of_any this.1 (this.2.1.trans h1.2) this.2.2
theorem heard_one {c:Cl} (hb:Base c) (ho:c.own=false) (hf:xG c) {h:Hrd} (hk:kindH c h) (hh:hrdOk h) (x:Res):vX c (xX c h x):=by
 have hs:∀ a,vX c (sayF c a):=fun a=>⟨hf.say a,.inl ⟨hb.1,.inr (uO a hb.2.2.1 hb.2.2.2.2)⟩⟩
 have hw:∀ {c'},dI c'∧xG c'→vX c c':=fun h=>⟨h.2,.inl ⟨hb.1,.inl h.1⟩⟩
 cases h with
 | quiet=>exact hk.elim
 | look=>exact hk.elim
 | part o g=>exact hk.elim
 | read b =>
  simp only [xX]
  split
  ·exact ⟨(hf.reads _).say _,.inl ⟨hb.1,.inr (uO _ hb.2.2.1 hb.2.2.2.2)⟩⟩
  ·split
   ·exact hw (readF_work hf hb ho hk _ _)
   ·obtain ⟨a,b⟩:=lostF_said x.code hf hb.2.2.1 hb.2.2.2.2
    exact ⟨b,.inl ⟨hb.1,.inr a⟩⟩
 | kept y =>
  simp only [xX]
  split
  ·exact hw (keptF_work hf hb ho hk _ _)
  ·split
   ·have ht:=qM c
    have hkk:=vB ht
    exact hw (mappedF_work (hf.adds ht) (hb.adds ht) ⟨by rw [hkk.2.2.2.2.2.1]; exact hk,by rw [hkk.2.2.2.1]; exact ho⟩)
   ·exact hs _
 | plan y =>
  simp only [xX]
  split
  ·exact hs _
  ·exact hw ⟨ask_work (h:=.frz y _) hb ho _ _ _ hk,hf.ask _ _ _ (grp_nat hh.1) hh (fun h=>by cases h)⟩
 | frz y e =>
  simp only [xX]
  split
  ·exact hw ⟨ask_work (h:=.inst y _) hb ho _ _ _ hk,hf.ask _ _ _ (grp_nat hh.2) hh (fun h=>by cases h)⟩
  ·split
   ·exact hw ⟨ask_work (h:=.frz y _) hb ho _ _ _ hk,hf.ask _ _ _ (grp_nat hh.1) hh (fun h=>by cases h)⟩
   ·exact hs _
 | inst y e =>
  simp only [xX]
  split
  ·exact hs _
  ·exact hw ⟨ask_work (h:=.fin y _) hb ho _ _ _ hk,hf.ask _ _ _ (by decide) hh.1 (fun h=>by cases h)⟩
 | fin y e =>
  simp only [xX]
  split
  ·exact hs _
  ·have hl:=learnF_learns c x.data
   have hb1:=hb.learns hl
   have hf1:xG (jS c x.data):=hl.choose_spec.2 hf
   generalize jS c x.data=c1 at hb1 hf1
   have hq:=quietF_adds c1 ⟨7,0,0,0,0,e,0,0,0,0,0,0,0,[],[],[],[]⟩ (grp_nat hh)
   have hb2:=hb1.adds hq
   exact ⟨(hf1.adds hq).say _,.inl ⟨hb.1,.inr (uO _ hb2.2.2.1 hb2.2.2.2.2)⟩⟩
 | change y =>
  simp only [xX]
  split
  ·exact hw ⟨ask_work (h:=.change y) hb ho _ _ _ hk,hf.ask _ _ _ (grp_nat hh) hh (fun h=>by cases h)⟩
  ·exact hs _
theorem heard_part {c:Cl} (hb:c.busy=true∧Quiet c) (hp:PhC c) (hf:xG c) {o:Opn} {g:Int} (hg:grp g) (x:Res):vX c (xX c (.part o g) x):=by
 have hwork:dI c:=⟨hb.1,hb.2,.inr (.inr (.inl hp))⟩
 simp only [xX]
 split
 ·exact ⟨hf,.inl ⟨hb.1,.inl hwork⟩⟩
 ·split
  ·refine ⟨hf.ask _ _ _ (grp_nat hg) hg (fun h=>by cases h),.inl ⟨hb.1,.inl ⟨hb.1,hb.2,.inr (.inr (.inl ⟨?_,hp.2⟩))⟩⟩⟩
   intro h hh
   unfold partF at hh
   rw [pendH_ask] at hh
   rcases List.mem_append.1 hh with hh|hh
   ·exact hp.1 h hh
   ·rw [List.mem_singleton] at hh; subst hh; rfl
  ·have h1:gU c (if x.code=26 then wF c else c):=by split<;>first|exact qM c|exact gU.refl c
   generalize (if x.code=26 then wF c else c)=c1 at h1
   have hk:=vB h1
   obtain ⟨a,b⟩:=comeF_ok (hf.adds h1) ⟨hk.1.trans hb.1,hk.2.2.2.2.2.2.2.2.2.2.1.trans hb.2.1,hk.2.2.2.2.2.2.2.2.2.1.trans hb.2.2⟩ (hk.2.1.trans hp.2.2.1) (.inl (hk.2.2.2.1.trans hp.2.1)) 2
   exact ⟨b,.inl ⟨hb.1,a⟩⟩
theorem kindH_reqs {c:Cl} (reqs:List Rq) {h:Hrd} (k:kindH c h):kindH { c with reqs:=reqs } h:=by cases h<;>exact k
theorem split_at {l:List Rq} {i:Nat} {r:Rq} (h:l[i]?=some r):∃ A B,l=A++r::B∧l.eraseIdx i=A++B:=by
 obtain ⟨hi,rfl⟩:=List.getElem?_eq_some_iff.1 h
 exact ⟨l.take i,l.drop (i+1),by simp,List.eraseIdx_eq_take_drop_succ ..⟩
theorem pendH_erase {c:Cl} {i:Nat} {r:Rq} (h:c.reqs[i]?=some r) :
  (r.tidy=true→wU { c with reqs:=c.reqs.eraseIdx i }=wU c)∧(r.tidy=false→∃ a b,wU c=a++r.heard::b∧wU { c with reqs:=c.reqs.eraseIdx i }=a++b):=by
 obtain ⟨A,B,e1,e2⟩:=split_at h
 unfold wU
 simp only [e1,e2]
 rw [← e1,e2,e1]
 constructor
 ·intro ht; simp [List.filter_append,List.filter_cons,ht]
 ·intro ht
  exact ⟨(A.filter fun r=>!r.tidy).map (·.heard),(B.filter fun r=>!r.tidy).map (·.heard),by simp [List.filter_append,List.filter_cons,ht],by simp [List.filter_append]⟩
theorem xG.erase {c:Cl} (h:xG c) (i:Nat):xG { c with reqs:=c.reqs.eraseIdx i }:=by
 refine ⟨h.guess,?_,h.rngs,h.parts,h.asked,h.doubts,h.coord,h.nmem⟩
 intro r hr
 obtain ⟨q,hq,rfl⟩:=List.mem_map.1 hr
 exact h.reqs _ (List.mem_map.2 ⟨q,List.mem_of_mem_eraseIdx hq,rfl⟩)
theorem xG.guessed {c:Cl} (h:xG c) (g:Nat) (n:Int):xG (vQ c g n):=⟨by simp [vQ,h.guess],h.reqs,h.rngs,h.parts,h.asked,h.doubts,h.coord,h.nmem⟩
theorem any_guess {c:Cl} (h:Any c) (g:Nat) (n:Int):Any (vQ c g n):=h
theorem heard_ok {c:Cl} (h:Any c) (hf:xG c) {i:Nat} {r:Rq} (hr:c.reqs[i]?=some r) (x:Res):vX c (xX { c with reqs:=c.reqs.eraseIdx i } r.heard x):=by
 have hm:r∈c.reqs:=List.mem_of_getElem? hr
 obtain ⟨g5,hok,htf⟩:=hf.reqs (vS r) (List.mem_map.2 ⟨r,hm,rfl⟩)
 obtain ⟨pt,pf⟩:=pendH_erase hr
 have hfe:=hf.erase i
 have fin:∀ {c'},vX { c with reqs:=c.reqs.eraseIdx i } c'→vX c c':=fun h=>h
 cases ht:r.tidy with
 | true =>
  have hp:=pt ht
  have hany:Any { c with reqs:=c.reqs.eraseIdx i }:=by
   simp only [Any,dI,Rest,Quiet,PhA,PhB,PhC,PhD,PhI,hp,kindW,kindH] at h ⊢
   exact h
  have:=htf ht
  cases hh:r.heard with
  | quiet=>exact vX.of_any hany M hfe
  | look=>exact fin (heard_look hany hfe x)
  | _=>simp only [vS] at this; rw [hh] at this; cases this
 | false =>
  obtain ⟨a,b,e1,e2⟩:=pf ht
  rcases h with ⟨h1,h2,h3⟩|⟨h1,h2,h3⟩
  ·rcases h3 with ⟨e,_⟩|⟨⟨hd,e,k⟩,w,co,ow⟩|hC|⟨e,_⟩
   ·rw [e1] at e; simp at e
   ·rw [e1] at e
    have hab:a=[]∧b=[]∧r.heard=hd:=by
     cases a with
     | nil=>simp at e; exact ⟨rfl,e.2,e.1⟩
     | cons y a=>simp at e
    obtain ⟨rfl,rfl,rfl⟩:=hab
    exact fin (heard_one (c:={ c with reqs:=c.reqs.eraseIdx i }) ⟨h1,h2,e2,w,co⟩ ow hfe (h:=r.heard) (kindH_reqs _ k) hok x)
   ·obtain ⟨hall,ho,hw,hk⟩:=hC
    have hpart:=hall r.heard (by rw [e1]; simp)
    cases hh:r.heard with
    | part o g =>
     refine fin (heard_part (c:={ c with reqs:=c.reqs.eraseIdx i }) ⟨h1,h2⟩ ⟨?_,ho,hw,hk⟩ hfe (by have:=hok; simp only [vS,hh,hrdOk] at this; exact this) x)
     intro y hy
     rw [e2] at hy
     refine hall y ?_
     rw [e1]
     rcases List.mem_append.1 hy with hy|hy
     ·simp [hy]
     ·simp [hy]
    | _=>rw [hh] at hpart; cases hpart
   ·rw [e1] at e; simp at e
  ·have:=h3.1; rw [e1] at this; simp at this
theorem vX.same {c c1 c':Cl} (h:vX c1 c') (e:c1.busy=c.busy):vX c c':=by unfold vX at h ⊢; rwa [e] at h
theorem any_same {c c':Cl} (h:Any c) (s:Same c c'):Any c'∧c'.busy=c.busy:=by
 have:=same_pres s
 refine ⟨?_,by obtain ⟨_,_,rfl,_⟩:=s; rfl⟩
 rcases h with h|h
 ·exact .inl (this.1 h)
 ·exact .inr (this.2.2 h)
theorem toldF_ok {c:Cl} (h:Any c) (hf:xG c) (m:Msg):vX c (toldF c m):=by
 unfold toldF
 split
 ·exact .of_any h M hf
 ·rename_i i hi
  split
  ·exact .of_any h M hf
  ·rename_i r hr
   split
   ·split
    ·have:=any_same (any_guess h r.group m.index) (qN (vQ c r.group m.index) i)
     exact .of_any this.1 this.2 ((hf.guessed _ _).same (qN _ _))
    ·exact .of_any h M hf
   ·split
    ·exact .of_any h M hf
    ·have key:∀ c1:Cl,(c1=c∨c1=vQ c r.group m.src)→vX c (xX { c1 with reqs:=c1.reqs.eraseIdx i } r.heard (vR m.data).1):=by
      rintro c1 (rfl|rfl)
      ·exact heard_ok h hf hr _
      ·exact (heard_ok (any_guess h r.group m.src) (hf.guessed _ _) (i:=i) hr _).same M
     simp only
     split
     ·exact key _ (.inr M)
     ·exact key _ (.inl M)
theorem stepF_ok {c:Cl} (h:dI c) (hf:xG c) (hs:c.coord.isSome=true) (m:Msg):vX c (stepF c m):=by
 unfold stepF
 split
 ·rename_i e; rw [e] at hs; cases hs
 ·rename_i k hk
  simp only
  have h1:dI { c with coord:=some (kX k m).1 }∧xG { c with coord:=some (kX k m).1 }∧c.waits=none∧(c.own=true∨(c.own=false∧(∃ d∈c.doubts,d.id=c.about)∧(c.kind=6∨c.kind=9))):=by
   refine ⟨⟨h.1,h.2.1,?_⟩,⟨hf.guess,hf.reqs,hf.rngs,hf.parts,hf.asked,hf.doubts,fun _ ho=>hf.coord hs ho,hf.nmem⟩,?_⟩
   ·rcases h.2.2 with ⟨_,e,_⟩|⟨_,_,e,_⟩|⟨a,b,d,e⟩|⟨a,b,d,e,f,g⟩
    ·rw [e] at hs; cases hs
    ·rw [e] at hs; cases hs
    ·exact .inr (.inr (.inl ⟨a,b,d,e⟩))
    ·exact .inr (.inr (.inr ⟨a,b,d,rfl,f,g⟩))
   ·rcases h.2.2 with ⟨_,e,_⟩|⟨_,_,e,_⟩|⟨a,b,d,e⟩|⟨a,b,d,e,f,g⟩
    ·rw [e] at hs; cases hs
    ·rw [e] at hs; cases hs
    ·exact ⟨d,.inl b⟩
    ·exact ⟨b,.inr ⟨d,f,g⟩⟩
  obtain ⟨hw1,hf1,hwt,hph⟩:=h1
  have hsm:=(uE (kX k m).2 { c with coord:=some (kX k m).1 }).1
  have hw2:=(same_pres hsm).1 hw1
  have hf2:=hf1.same hsm
  split
  ·obtain ⟨o,q,e,_⟩:=hsm
   rw [e] at hw2 hf2 ⊢
   obtain ⟨a,b⟩:=comeF_ok hf2 ⟨hw2.1,hw2.2.1⟩ hwt hph (valueC (kX k m).1)
   exact ⟨b,.inl ⟨h.1,a⟩⟩
  ·exact ⟨hf2,.inl ⟨h.1,.inl hw2⟩⟩
theorem firstF_core {l m:List Rq} (h:l.map vS=m.map vS):xA l=xA m:=by
 have hlen:l.length=m.length:=by have:=congrArg List.length h; simpa using this
 unfold xA
 rw [hlen]
 refine List.filter_congr fun i _=>?_
 have hi:(l.map vS)[i]?=(m.map vS)[i]?:=by rw [h]
 simp only [List.getElem?_map] at hi
 have ht:∀ g:Nat,((l.take i).all fun q=>decide (q.group≠g))=((m.take i).all fun q=>decide (q.group≠g)):=fun g=>by
  have e:(l.take i).map vS=(m.take i).map vS:=by rw [List.map_take,List.map_take,h]
  have e1:∀ l:List Rq,(l.all fun q=>decide (q.group≠g))=((l.map vS).all fun q=>decide (q.group≠g)):=fun l=>by rw [List.all_map]; rfl
  rw [e1,e1,e]
 cases h1:l[i]? with
 | none=>cases h2:m[i]? with
  | none=>rfl
  | some r=>rw [h1,h2] at hi; cases hi
 | some r=>cases h2:m[i]? with
  | none=>rw [h1,h2] at hi; cases hi
  | some q =>
   rw [h1,h2] at hi
   simp only [Option.map_some,Option.some.injEq] at hi
   have:r.group=q.group:=congrArg Core.group hi
   simp only [this,ht]
def SentOk (c:Cl):Prop:=∀ i∈xA c.reqs,dueF c i=false
theorem putF_reqs (c:Cl) (m:Msg):(putF c m).reqs=c.reqs∧(putF c m).clock=c.clock:=by
 unfold putF; simp only; split<;>exact ⟨rfl,rfl⟩
theorem sendF_sent (c:Cl) (i:Nat):(wZ c i).reqs=(gW c i).reqs∧(wZ c i).clock=c.clock:=by
 unfold wZ
 split
 ·rename_i h
  refine ⟨?_,rfl⟩
  unfold gW
  simp only
  apply List.ext_getElem?
  intro j
  rw [List.getElem?_modify]
  by_cases hj:i=j
  ·subst hj; rw [h]; rfl
  ·cases c.reqs[j]?<;>simp [hj]
 ·split
  ·exact ⟨(putF_reqs _ _).1,(putF_reqs _ _).2⟩
  ·exact ⟨rfl,rfl⟩
theorem due_send {c:Cl} (h0:0≤c.clock) (i j:Nat):dueF (wZ c i) j=if i=j then false else dueF c j:=by
 obtain ⟨h1,h2⟩:=sendF_sent c i
 unfold dueF
 rw [h1,h2]
 unfold gW
 simp only [List.getElem?_modify]
 cases c.reqs[j]? with
 | none=>split<;>simp_all
 | some r =>
  by_cases hj:i=j
  ·simp [hj]; omega
  ·simp [hj]
theorem sendsF_due :∀ (l:List Nat) {c:Cl},0≤c.clock→∀ j,(j∈l∨dueF c j=false)→dueF (wP c l) j=false
 | [],c,_,j,h=>by
  rcases h with h|h
  ·cases h
  ·exact h
 | i::l,c,h0,j,h=>by
  show dueF (wP (if dueF c i=true then wZ c i else c) l) j=false
  have hc:0≤(if dueF c i=true then wZ c i else c).clock:=by
   split
   ·rw [(sendF_sent c i).2]; exact h0
   ·exact h0
  refine sendsF_due l hc j ?_
  rcases h with h|h
  ·rcases List.mem_cons.1 h with rfl|h
   ·right
    split
    ·rw [due_send h0,if_pos M]
    ·rename_i hn; simpa using hn
   ·exact .inl h
  ·right
   split
   ·rw [due_send h0]; split
    ·rfl
    ·exact h
   ·exact h
theorem flushF_sent {c:Cl} (h0:0≤c.clock):SentOk (vV c):=by
 intro i hi
 obtain ⟨o,r,e,he⟩:=flushF_same c
 have:xA (vV c).reqs=xA c.reqs:=by rw [e]; exact firstF_core he
 rw [this] at hi
 exact sendsF_due _ h0 i (.inl hi)
theorem sendsF_none :∀ (l:List Nat) {c:Cl},(∀ i∈l,dueF c i=false)→wP c l=c
 | [],c,_=>rfl
 | i::l,c,h=>by
  show wP (if dueF c i=true then wZ c i else c) l=c
  rw [if_neg (by rw [h i (by simp)]; simp)]
  exact sendsF_none l fun j hj=>h j (by simp [hj])
theorem flushF_none {c:Cl} (h:SentOk c):vV c=c:=sendsF_none _ h
def qP (c:Cl):Prop:=c.out=[]∧xG c∧SentOk c∧Any c
theorem xG.outs {c:Cl} (h:xG c) (o:List Pkt) (a:Ans) (b:Bool):xG { c with out:=o,ans:=a,answered:=b }:=⟨h.guess,h.reqs,h.rngs,h.parts,h.asked,h.doubts,h.coord,h.nmem⟩
theorem end_ok {c:Cl} (hf:xG c) (h:dI c∨Said c∨Rest c):qP (dO c)∧(dO c).busy=c.busy∧(endF c).answered=c.answered∧(endF c).ans=c.ans:=by
 have hs:=flushF_same c
 have hfl:=flushF_sent (c:=c) hf.nmem.2
 have hff:=hf.same hs
 have hp:=same_pres hs
 unfold dO endF
 obtain ⟨o,r,e,he⟩:=hs
 rw [e] at hfl hff hp ⊢
 refine ⟨⟨rfl,hff.outs _ _ _,hfl,?_⟩,rfl,rfl,rfl⟩
 rcases h with h|h|h
 ·have:=hp.1 h
  exact .inl ⟨this.1,⟨rfl,rfl⟩,this.2.2⟩
 ·have:=hp.2.1 h
  exact .inr ⟨this.1,⟨rfl,rfl⟩,this.2.2⟩
 ·have:=hp.2.2 h
  exact .inr ⟨this.1,⟨rfl,rfl⟩,this.2.2⟩
def Between (c c':Cl) (r:Rsp):Prop:=qP c'∧(r.answered=true→c.busy=true∧c'.busy=false)∧(r.answered=false→c'.busy=c.busy∧r.ans=ans0)
theorem end_between {c0 c c1:Cl} (hb:c1.busy=c0.busy) (h:vX c1 c):Between c0 (dO c) (endF c):=by
 obtain ⟨hf,h⟩:=h
 rcases h with ⟨h1,h2|h2⟩|⟨h1,h2⟩
 ·obtain ⟨a,b,d,e⟩:=end_ok hf (.inl h2)
  refine ⟨a,fun h=>?_,fun h=>?_⟩
  ·rw [d,h2.2.1.1] at h; cases h
  ·rw [b,e,h2.1,← hb,h1]; exact ⟨rfl,h2.2.1.2⟩
 ·obtain ⟨a,b,d,e⟩:=end_ok hf (.inr (.inl h2))
  refine ⟨a,fun h=>?_,fun h=>?_⟩
  ·rw [b,← hb]; exact ⟨h1,h2.1⟩
  ·rw [d,h2.2.1] at h; cases h
 ·obtain ⟨a,b,d,e⟩:=end_ok hf (.inr (.inr h2))
  refine ⟨a,fun h=>?_,fun h=>?_⟩
  ·rw [d,h2.2.1.1] at h; cases h
  ·rw [b,e,h2.1,← hb,h1]; exact ⟨rfl,h2.2.1.2⟩
theorem take_ok {c:Cl} (h:qP c) (src dst:Int) (b:List Bt):Between c (dL c src dst b).1 (dL c src dst b).2:=by
 unfold dL
 simp only
 split
 ·exact ⟨h,(fun e=>by cases e),fun _=>⟨rfl,rfl⟩⟩
 ·refine end_between (c1:=c) M ?_
  split
  ·exact toldF_ok h.2.2.2 h.2.1 _
  ·split
   ·rename_i hc
    rcases h.2.2.2 with hw|hr
    ·exact stepF_ok hw h.2.1 hc.1 _
    ·rw [hr.2.2.2.2.1] at hc; cases hc.1
   ·exact .of_any h.2.2.2 M h.2.1
theorem again_ok :∀ (l:List Nat) {c:Cl},Any c→xG c→Any (l.foldl kO c)∧xG (l.foldl kO c)∧(l.foldl kO c).busy=c.busy
 | [],c,h,hf=>⟨h,hf,rfl⟩
 | i::l,c,h,hf=>by
  have h1:Any (kO c i)∧xG (kO c i)∧(kO c i).busy=c.busy:=by
   unfold kO
   split
   ·exact ⟨h,hf,rfl⟩
   ·rename_i r hr
    split
    ·have:=any_same (any_guess h r.group (vO c r.group % c.nodes+1)) (qN _ i)
     exact ⟨this.1,(hf.guessed _ _).same (qN _ i),this.2⟩
    ·exact ⟨h,hf,rfl⟩
  obtain ⟨a,b,d⟩:=again_ok l h1.1 h1.2.1
  exact ⟨a,b,d.trans h1.2.2⟩
def jM (c:Cl):Cl:={ c with clock:=c.clock+1 }
theorem tick_ok {c:Cl} (h:qP c):Between c (tickF c).1 (tickF c).2:=by
 unfold tickF
 simp only
 have hf0:xG (jM c):=⟨h.2.1.guess,h.2.1.reqs,h.2.1.rngs,h.2.1.parts,h.2.1.asked,h.2.1.doubts,h.2.1.coord,h.2.1.nmem.1,by have:=h.2.1.nmem.2; unfold jM; simp only; omega⟩
 have ha0:Any (jM c):=h.2.2.2
 obtain ⟨a1,f1,b1⟩:=again_ok (xA c.reqs) ha0 hf0
 have b1':((xA c.reqs).foldl kO (jM c)).busy=c.busy:=b1
 show Between c (dO _) (endF _)
 have key:∀ c1:Cl,Any c1→xG c1→c1.busy=c.busy→∀ c2,c2=(if c1.coord.isSome=true∧c1.own=false∧20≤c1.clock - c1.started then wM c1 else c1) →
   ∀ c3,c3=(if c2.busy=true∧60≤c2.clock - c2.since then qF c2 else c2)→Between c (dO c3) (endF c3):=by
  rintro c1 ha hf hb c2 rfl c3 rfl
  have h2:∀ c2,c2=(if c1.coord.isSome=true∧c1.own=false∧20≤c1.clock - c1.started then wM c1 else c1)→Any c2∧xG c2∧c2.busy=c1.busy:=by
   rintro c2 rfl
   split
   ·rename_i hc
    rcases ha with hw|hr
    ·obtain ⟨x,y⟩:=gC hw hf hc.1
     exact ⟨.inl x,y,by rw [x.1,hw.1]⟩
    ·rw [hr.2.2.2.2.1] at hc; cases hc.1
   ·exact ⟨ha,hf,rfl⟩
  have:=h2 _ rfl
  generalize (if c1.coord.isSome=true∧c1.own=false∧20≤c1.clock - c1.started then wM c1 else c1)=c2 at this
  obtain ⟨x,y,z⟩:=this
  refine end_between (c1:=c2) (z.trans hb) ?_
  split
  ·rename_i hc
   rcases x with hw|hr
   ·obtain ⟨p,q⟩:=overF_said y hw
    exact ⟨q,.inl ⟨hw.1,.inr p⟩⟩
   ·rw [hr.1] at hc; cases hc.1
  ·exact .of_any x M y
 exact key _ a1 f1 b1' _ rfl _ rfl
def refused (e:Int):Prop:=e=13∨e=12∨e=17∨e=22∨e=20∨e=21∨e=27∨e=28
def bB (c c':Cl):Prop:=xG c'∧(dI c'∨(Said c'∧(refused c'.ans.code→c'.reqs=c.reqs∧c'.out=c.out∧c'.clock=c.clock)))
theorem bB.say {c:Cl} (hb:Base c) (hf:xG c) (a:Ans):bB c (sayF c a):=⟨hf.say a,.inr ⟨uO a hb.2.2.1 hb.2.2.2.2,fun _=>⟨rfl,rfl,rfl⟩⟩⟩
theorem bB.work {c c':Cl} (h:dI c'∧xG c'):bB c c':=⟨h.2,.inl h.1⟩
theorem bB.of_same {c c1 c':Cl} (h:bB c1 c') (e:c1.reqs=c.reqs∧c1.out=c.out∧c1.clock=c.clock):bB c c':=by
 obtain ⟨a,b⟩:=h
 refine ⟨a,b.imp id fun ⟨x,y⟩=>⟨x,fun r=>?_⟩⟩
 obtain ⟨p,q,s⟩:=y r
 exact ⟨p.trans e.1,q.trans e.2.1,s.trans e.2.2⟩
theorem xG.opened {c:Cl} (h:xG c) (ho:c.own=false) (b:Bool):xG { kW c with opn:=b }:=⟨h.guess,h.reqs,h.rngs,by simp [kW,noT],by simp [kW,noT],h.doubts,(fun _ e=>by simp only [kW] at e; rw [ho] at e; cases e),h.nmem⟩
theorem doesF_ok {c:Cl} (hb:Base c) (ho:c.own=false) (hf:xG c) (x:Cal) (hk:c.kind=x.kind) (h1:1≤x.kind∧x.kind≤11) (d:List Bt):bB c (vZ c x d):=by
 have hcode:∀ e,bB c (jC c e):=fun e=>.say hb hf _
 unfold vZ
 split
 ·unfold beginF
  split
  ·exact hcode _
  ·split
   ·exact hcode _
   ·exact bB.of_same (bB.say (c:={ kW c with opn:=true }) hb (hf.opened ho true) _) ⟨rfl,rfl,rfl⟩
 split
 ·rename_i h2
  unfold vA
  split
  ·exact hcode _
  ·rename_i hopn
   split
   ·exact hcode _
   ·split
    ·exact .say hb hf _
    ·split
     ·exact .say hb hf _
     ·split
      ·exact hcode _
      ·exact .work (mappedF_work hf hb ⟨hk.trans h2,by simpa using hopn,ho⟩)
 split
 ·unfold qQ
  split
  ·exact hcode _
  ·exact bB.of_same (bB.say (c:={ c with cur:={ c.cur with writes:=(dU c.cur.writes x.block d).1 } }) hb ⟨hf.guess,hf.reqs,hf.rngs,hf.parts,hf.asked,hf.doubts,hf.coord,hf.nmem⟩ _) ⟨rfl,rfl,rfl⟩
 split
 ·rename_i h4
  unfold commitF
  split
  ·exact hcode _
  ·rename_i hopn
   split
   ·exact bB.of_same (bB.say (c:={ c with opn:=false }) hb (hf.opn false) _) ⟨rfl,rfl,rfl⟩
   ·exact .work (mappedF_work hf hb ⟨hk.trans h4,by simpa using hopn,ho⟩)
 split
 ·unfold abortF
  split
  ·exact hcode _
  ·have h2:=uC c c.cur.id (xH c.cur) 2 hf.groups
   have hb2:=hb.adds h2
   have hf2:=hf.adds h2
   generalize jZ c c.cur.id (xH c.cur) 2=c2 at hb2 hf2
   refine ⟨(hf2.opn false).say _,.inr ⟨uO _ hb2.2.2.1 hb2.2.2.2.2,fun hr=>?_⟩⟩
   exact absurd hr (by show ¬ refused 0; unfold refused; decide)
 split
 ·rename_i h6
  unfold qS
  split
  ·exact hcode _
  ·split
   ·exact hcode _
   ·rename_i d2 l hdl
    exact .work (resolveF_work hf hb ho (by rw [hdl]; simp) (.inl (hk.trans h6)))
 split
 ·rename_i h7
  unfold snapshotF
  split
  ·exact hcode _
  ·rename_i hopn
   split
   ·exact hcode _
   ·split
    ·exact hcode _
    ·simp only
     refine .work (mappedF_work (c:={ kW c with cur:={ (kW c).cur with slo:=_,shi:=_ },own:=true }) ⟨hf.guess,hf.reqs,hf.rngs,by simp [kW,noT],by simp [kW,noT],hf.doubts,fun e _=>?_,hf.nmem⟩ hb ⟨hk.trans h7,by show c.opn=false; simpa using hopn,rfl⟩)
     rw [show (kW c).coord=c.coord from rfl,hb.2.2.2.2] at e; cases e
 split
 ·rename_i h8
  unfold readSnapF
  split
  ·exact hcode _
  ·split
   ·exact hcode _
   ·exact .work (mappedF_work hf hb ⟨hk.trans h8,ho⟩)
 split
 ·rename_i h9
  unfold dR
  split
  ·exact hcode _
  ·split
   ·exact hcode _
   ·rename_i d2 hd2
    exact .work (resolveF_work hf hb ho (List.mem_of_find?_eq_some hd2) (.inr (hk.trans h9)))
 split
 ·rename_i h10
  unfold moveF
  split
  ·exact hcode _
  ·split
   ·exact hcode _
   ·rename_i hck
    split
    ·exact hcode _
    ·simp only [ne_eq,Decidable.not_not] at hck
     exact .work ⟨ask_work (h:=.plan x) hb ho _ _ _ (hk.trans h10),hf.ask _ _ _ (by decide) (planned_grp x hck) (fun h=>by cases h)⟩
 ·unfold memberF
  split
  ·exact hcode _
  ·rename_i hg
   have hgr:grp x.group:=by have:=hf.nmem.1; unfold grp; omega
   split
   ·exact hcode _
   ·split
    ·exact hcode _
    ·exact .work ⟨ask_work (h:=.change x) hb ho _ _ _ (by show c.kind=11; omega),hf.ask _ _ _ (grp_nat hgr) hgr (fun h=>by cases h)⟩
theorem call_ok {c:Cl} (h:qP c) (x:Cal) (d:List Bt):qP (wG c x d).1 ∧
  (c.busy=true→(wG c x d).1.busy=true∧(wG c x d).2=⟨[],⟨11,0,[]⟩,true⟩) ∧
  (c.busy=false→(wG c x d).2.answered=!(wG c x d).1.busy∧((wG c x d).2.answered=true→refused (wG c x d).2.ans.code→(wG c x d).2.out=[])):=by
 unfold wG
 split
 ·rename_i hb; exact ⟨h,fun _=>⟨hb,rfl⟩,fun e=>by rw [hb] at e; cases e⟩
 ·rename_i hb
  have hb':c.busy=false:=by simpa using hb
  split
  ·exact ⟨h,fun e=>absurd e hb,fun _=>⟨by simp [hb'],fun _ _=>rfl⟩⟩
  ·rename_i hk
   have hr:Rest c:=by
    rcases h.2.2.2 with hw|hr
    ·exact absurd hw.1 hb
    ·exact hr
   have hd:=doesF_ok (c:={ c with busy:=true,kind:=x.kind,since:=c.clock }) ⟨rfl,hr.2.1,hr.2.2.1,hr.2.2.2.1,hr.2.2.2.2.1⟩ hr.2.2.2.2.2 ⟨h.2.1.guess,h.2.1.reqs,h.2.1.rngs,h.2.1.parts,h.2.1.asked,h.2.1.doubts,h.2.1.coord,h.2.1.nmem⟩ x M (by omega) d
   simp only
   generalize vZ { c with busy:=true,kind:=x.kind,since:=c.clock } x d=c1 at hd
   obtain ⟨hf1,hw|⟨hs,href⟩⟩:=hd
   ·obtain ⟨p,q,s,t⟩:=end_ok hf1 (.inl hw)
    refine ⟨p,fun e=>absurd e hb,fun _=>⟨by rw [s,q,hw.2.1.1,hw.1]; rfl,fun e=>?_⟩⟩
    rw [s,hw.2.1.1] at e; cases e
   ·obtain ⟨p,q,s,t⟩:=end_ok hf1 (.inr (.inl hs))
    refine ⟨p,fun e=>absurd e hb,fun _=>⟨by rw [s,q,hs.2.1,hs.1]; rfl,fun _ hrf=>?_⟩⟩
    rw [t] at hrf
    obtain ⟨e1,e2,e3⟩:=href hrf
    have hso:SentOk c1:=by
     intro i hi
     rw [e1] at hi
     have:=h.2.2.1 i hi
     unfold dueF at this ⊢
     rw [e1,e3]; exact this
    show (vV c1).out=[]
    rw [flushF_none hso,e2]; exact h.1
end Sl
end Go.Proofs.YtfahijncpmlhjaaGreat
